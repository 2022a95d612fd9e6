/- SecretSays: the walk, way 2 of Join, Deal's arguments right. (Printed by wip/tools/gen_secret.py.) -/
import Derived.Test.YtiljppeamdoocaaSecM9
import Derived.Test.YtiljppeamdoocaaSecM11
namespace Go.Proofs.Ytiljppeamdoocaa
open Go.RowKit

set_option maxRecDepth 100000 in
set_option maxHeartbeats 8000000 in
theorem secretSays_2g (p s : Int) (tape : List Int) (n : Int) (l : Pts) (nt nl : Nat) (ao bo : Option Addr) (ca cb : Nat) (w : World) (hp : (Lit.int .i64 p).wf = true) (hlt : tape.length = nt) (hll : l.length = nl) (h63 : nt * 8 ≤ 140737488351232) (h64 : nl ≤ 9223372036854775807) (hna : ao = none → nt = 0 ∧ ca = 0) (hcb : nl ≤ cb)
    (hT : Hid (Reads w ao (tape.map (Value.int .i64)))) (hL : Hid (Reads w bo (cells2 (l.map pV)))) (hj : ptsE p l = 0) (hj2 : nl = 0) (hd : dealE p s tape n = 0) :
    Calls Try.prog 9 #[.int .i64 p, .int .i64 s, .slice ao nt ca, .int .i64 n, .slice bo nl cb] w fun e w' => e = .returned (.bool true) ∧ Below w.heap.size w w' := by
  obtain ⟨W0, hW0⟩ : ∃ W0, w.alloc (.cells #[.int .i64 p] 3) = W0 := ⟨_, rfl⟩
  have hb0 : Below w.heap.size w W0 := by rw [← hW0]; exact (Below.refl _ w).alloc (Nat.le_refl _) _
  have hbox0 : W0.heap[w.heap.size]? = some (.cells #[.int .i64 p] 3 (0, 0)) := by rw [← hW0]; exact heap_alloc_new w _
  have PB : Hid (∀ w', Below W0.heap.size W0 w' → w'.cell? ⟨w.heap.size, 0, none⟩ = some (.int .i64 p)) := fun w' hb => heap_cell ((hb.block _ (Array.getElem?_eq_some_iff.1 hbox0).1).trans hbox0) 0
  have fin : Hid (∀ w', Below W0.heap.size W0 w' → Below w.heap.size w w') := fun w' hb => hb0.trans (hb.mono hb0.size)
  have T0 := Lib.hid (hT.out.below hb0)
  have L0 := Lib.hid (hL.out.below hb0)
  have CD := Lib.hid (secret_Deal p s tape n nt ao ca W0 hp hlt h63 hna T0 hd)
  have CJ := Lib.hid (fun w' (hb : Below W0.heap.size W0 w') => secret_Join' p l nl bo cb w' hp hll h64 hcb (L0.out.below hb))
  have CE := Lib.hid (fun w' (hb : Below W0.heap.size W0 w') => ref_PointsErr p l nl bo cb w' hp hll h64 (L0.out.below hb))
  have CFe := Lib.hid (fun w' => ref_FieldErr p w' hp)
  have CT := Lib.hid (fun w' (hb : Below W0.heap.size W0 w') => containsFunc_cap 54 (.pointer (some ⟨w.heap.size, 0, none⟩)) (fun x W => by go_simp) (outF p) tape ao ca w' (by rw [hlt]; omega) (T0.out.below hb) (fun x _ m => (law_out x p w.heap.size (w'.drewN m) (show World.cell? _ _ = _ from PB.out w' hb)).mono (by rintro e w2 ⟨rfl, rfl⟩; exact ⟨rfl, 0, rfl⟩)))
  rw [hlt] at CT
  obtain ⟨j1, j2⟩ := join_ways2 hj (by rw [hll]; exact hj2)
  rw [j1, j2] at CJ
  rw [hj] at CE
  have z1 : ((nl : Int) == 0) = true := by simp [hj2]
  clear j1 j2 hj hj2
  obtain ⟨hf, p1, p2, _, h11, n0, n12, np, s0, s1, hin, hae⟩ := deal_good hd
  rw [hlt] at h11
  obtain ⟨N, rfl⟩ : ∃ N : Nat, n = N := ⟨n.toNat, by omega⟩
  rw [Int.toNat_natCast] at CD
  rw [hf] at CFe
  rw [hae] at CT
  rw [← hW0] at CD CJ CE CT PB fin T0
  have kp : (w.alloc (.cells #[.int .i64 p] 3)).cell? ⟨w.heap.size, 0, none⟩ = some (.int .i64 p) := PB.out _ (Below.refl _ _)
  have e1 : decide ((N : Int) < 0) = false := by simp
  have e2 : decide ((12 : Int) < N) = false := by simp; omega
  have e3 : decide (p ≤ (N : Int)) = false := by simp; omega
  have e4 : decide (s < 0) = false := by simp; omega
  have e5 : decide (p ≤ s) = false := by simp; omega
  have t1 : decide ((11 : Int) < nt) = false := by simp; omega
  have HIN : Hid (InF p (s :: tape)) := fun x hx => by
    rcases List.mem_cons.1 hx with rfl | h
    · exact ⟨s0, s1⟩
    · exact hin x h
  have HLT := Lib.hid hlt
  have HNA := Lib.hid hna
  have hN12 : N ≤ 12 := by omega
  clear hd hf hae hb0 hbox0 hW0 L0 hp hlt hll hna hin n0 n12
  go_enter Try.func9, Try.ntmps9
  go_wp2_with (first | (go_at_call 17; refine CD.out.mono ?_; rintro e w1 ⟨G, cG, rfl, g1, g2, rG, b1⟩; have q1 := PB.out _ b1) | (go_at_call 20; refine (CJ.out _ b1).mono ?_; rintro e w2 ⟨rfl, s2⟩; have b2 := b1.trans (s2.mono b1.size); have q2 := PB.out _ b2) | (go_at_call 48; refine (CE.out _ b2).mono ?_; rintro e w3 ⟨rfl, s3⟩; have b3 := b2.trans (s3.mono b2.size); have q3 := PB.out _ b3) | (go_at_call 38; refine (CFe.out _).mono ?_; rintro e w' ⟨rfl, rfl⟩) | (go_at_call 53; refine (CT.out _ b3).mono ?_; rintro e w' ⟨rfl, m6, rfl⟩; have b6 := below_drewN b3 m6; have q6 := PB.out _ b6))
  have hRG := Lib.hid (((rG.below s2).below s3).drew m6)
  have hT6 := Lib.hid (T0.out.below b6)
  have B6 := Lib.hid b6
  clear rG q1 q2 q3 b1 b2 b3 s2 s3 kp q6
  generalize w'.drewN m6 = wc at *
  go_loopw [16, 17] (fun va vi wr => ∃ i : Nat, vi = .int .i64 ((i : Int) + 1) ∧ i ≤ N ∧ Hid (wr.ownsRow wc.heap.size 71 2 va i (cells2 ((dealL p (s :: tape) i).map pV))) ∧ Hid (Below wc.heap.size wc wr)) (fun _ vi _ => (N + 1 - (intOf vi).toNat : Nat))
  case atStart => exact ⟨0, by simp, by omega, World.ownsRow_nil _ _ _ _, Below.refl _ _⟩
  case round =>
    obtain ⟨i, rfl, hi, hO, hb⟩ := hrel
    have bw := B6.out.trans (hb.out.mono B6.out.size)
    have qp := PB.out _ bw
    by_cases hi1 : i < N
    · have t2 : decide ((i : Int) + 1 ≤ N) = true := by simp; omega
      have w1 : IntKind.i64.wrap ((i : Int) + 1 + 1) = (i : Int) + 1 + 1 := IntWalk.i64_in _ (by omega)
      have hwf : (Lit.int .i64 ((i : Int) + 1)).wf = true := by simp [Lit.wf, IntKind.min, IntKind.max, IntKind.signed, IntKind.bits]; omega
      obtain ⟨y, hy⟩ : ∃ y, evp ((i : Int) + 1) (s :: tape) % p = y := ⟨_, rfl⟩
      have HY : Hid (pV (dealP p (s :: tape) i) = (.int .i64 ((i : Int) + 1), .int .i64 y)) := by show (_ : Value × Value) = _; rw [← hy]; rfl
      have hmodx : ((i : Int) + 1) % p = (i : Int) + 1 := Int.emod_eq_of_lt (by omega) (by omega)
      have CC : Hid (∀ X, Below wr.heap.size wr X → X.heap[wr.heap.size]? = some (.cells #[.int .i64 s] 3 (0, 0)) → X.heap[wr.heap.size + 1]? = some (.cells #[.slice (some ⟨wr.heap.size, 0, none⟩) 1 1, .slice ao nt ca] 24 (0, 0)) → Calls Try.prog 55 #[.slice (some ⟨wr.heap.size + 1, 0, none⟩) 2 2] X (ListPost wr.heap.size (s :: tape) wr)) := fun X h1 h2 h3 => by
        have hs : Reads X (some ⟨wr.heap.size, 0, none⟩) ([s].map (Value.int .i64)) := by
          intro j u hu
          have hj : j = 0 := by
            have := (List.getElem?_eq_some_iff.1 hu).1
            simp at this
            exact this
          subst hj
          simp at hu
          subst hu
          exact ⟨_, 0, rfl, heap_cell h2 0⟩
        refine (concat_two [s] tape 1 nt (some ⟨wr.heap.size, 0, none⟩) ao 1 ca (wr.heap.size + 1) X rfl HLT.out (by omega) (by omega) (fun h => by cases h) HNA.out (heap_cell h3 0) (heap_cell h3 1) hs ((hT6.out.below hb.out).below h1)).mono ?_
        rintro e w' ⟨v, rfl, ho, hb2⟩
        exact ⟨v, rfl, own_mono ho h1.size, h1.trans (hb2.mono h1.size)⟩
      have CV : Hid (∀ X (a : Option Addr) (c : Nat), Reads X a ((s :: tape).map (Value.int .i64)) → Calls Try.prog 46 #[.int .i64 p, .slice a (tape.length + 1) c, .int .i64 ((i : Int) + 1)] X fun e w' => e = .returned (.int .i64 y) ∧ ∃ q, w' = X.drewN q) := fun X a c hr => by
        have h := ref_ValueAt p (s :: tape) ((i : Int) + 1) a (tape.length + 1) c X p1 p2 hwf rfl (by rw [HLT.out]; omega) HIN.out hr
        rwa [hmodx, hy] at h
      have hm1 : Hid (i + 1 ≤ maxLen) := Lib.hid (by unfold maxLen; omega)
      have hm2 : Hid ((i + 1) * 16 ≤ 140737488355328) := Lib.hid (by omega)
      have ha1 : Below wr.heap.size wr (wr.alloc (.cells #[.int .i64 s] 3)) := (Below.refl _ wr).alloc (Nat.le_refl _) _
      have ha2 : Below wr.heap.size wr ((wr.alloc (.cells #[.int .i64 s] 3)).alloc (.cells #[.slice (some ⟨wr.heap.size, 0, none⟩) 1 1, .slice ao nt ca] 24)) := ha1.alloc ha1.size _
      have qa := PB.out _ (bw.trans (ha1.mono bw.size))
      have qb := PB.out _ (bw.trans (ha2.mono bw.size))
      have bw := Lib.hid bw
      clear ha1 ha2
      clear hy hwf hmodx
      go_wp2_with fail
      go_region_law (first
        | (go_simp; go_at_call 55; (with_reducible refine (CC.out _ ?_ ?_ ?_).mono ?_); (focus (repeat (first | (with_reducible exact Below.refl _ _) | (with_reducible apply below_drew1) | (with_reducible apply below_drewN) | (with_reducible refine Below.alloc ?_ (by simp; try omega) _) | fail))); (focus (repeat (first | (with_reducible exact heap_new' _ _ _ (by simp; try omega)) | (with_reducible apply heap_drew) | (with_reducible apply heap_drewN) | (with_reducible apply heap_alloc_old) | fail))); (focus (repeat (first | (with_reducible exact heap_new' _ _ _ (by simp; try omega)) | (with_reducible apply heap_drew) | (with_reducible apply heap_drewN) | (with_reducible apply heap_alloc_old) | fail))); rintro e w5 ⟨v5, rfl, ho5, hb5⟩; obtain ⟨a5, c5, rfl, r5, _, _, _⟩ := own_data ho5; have R5 := Lib.hid r5; have HB5 := Lib.hid hb5; have hsz5 := hb5.size; have qp5 := PB.out _ (bw.out.trans (hb5.mono bw.out.size)); clear ho5 r5 hb5)
        | (go_simp; go_at_call 46; (with_reducible refine (CV.out _ a5 c5 ?_).mono ?_); (focus (repeat (first | (with_reducible exact R5.out) | (with_reducible apply Reads.drew1) | (with_reducible apply Reads.drew) | fail))); rintro e w6 ⟨rfl, n6, rfl⟩)
        | (refine step_app_one ?_ (.tmp 123) (.tmp 134) 34 ?_ wc.heap.size 71 _ 2 16 Try.underlying34 ptRow _ i (cells2 ((dealL p (s :: tape) i).map pV)) ?_ wr hO.out wc hb.out (Nat.le_refl _) ?_ ?_ #[.int .i64 ((i : Int) + 1), .int .i64 y] ?_ ?_ rfl ?_ hm1.out hm2.out ?_; (focus rfl); (focus rfl); (focus rfl); (focus (repeat (first | (with_reducible exact Below.refl _ _) | (with_reducible exact HB5.out) | (with_reducible apply below_drew1) | (with_reducible apply below_drewN) | (with_reducible refine Below.alloc ?_ (by simp; try omega) _) | fail))); rotate_left; (focus rfl); (focus (repeat (first | (with_reducible exact heap_new' _ _ _ (by simp; try omega)) | (with_reducible apply heap_drew) | (with_reducible apply heap_drewN) | (with_reducible apply heap_alloc_old) | fail))); (focus (intro u hu; simp at hu; rcases hu with rfl | rfl <;> rfl)); intro v2 w2' hown2 hb3)
        | fail)
      all_goals
        have HO7 : Hid (w2'.ownsRow wc.heap.size 71 2 v2 (i + 1) (cells2 ((dealL p (s :: tape) (i + 1)).map pV))) := by
          show World.ownsRow _ _ _ _ _ _ _
          rw [dealL_succ, List.map_append, cells2_append, List.map_cons, List.map_nil, HY.out]; exact hown2
        have HB7 := Lib.hid hb3
        clear hown2 hb3
        go_wp2_with fail
        go_roundw
        case rel => exact ⟨i + 1, by go_num, by omega, HO7, HB7⟩
        case measure => simp [intOf]; omega
    · obtain rfl : i = N := by omega
      have t2 : decide ((i : Int) + 1 ≤ i) = false := by simp; omega
      obtain ⟨aa, ka, hv, hra, hna2, _, _⟩ := own_data2 hO.out
      subst hv
      have X := Lib.hid (same_pt (dealL p (s :: tape) i) i (some ⟨G, 0, none⟩) aa cG ka wr (dealL_length _ _ _) (by omega) (hRG.out.below hb.out) hra)
      clear hra
      go_wp2_with (go_at_call 56; refine X.out.mono ?_; rintro e w' ⟨rfl, m9, rfl⟩)
      go_ret
      exact ⟨by simp, below_drewN (fin.out _ bw) m9⟩
end Go.Proofs.Ytiljppeamdoocaa
