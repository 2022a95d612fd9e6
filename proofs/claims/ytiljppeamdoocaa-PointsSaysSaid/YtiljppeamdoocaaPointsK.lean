/- PointsSays: the walk. -/
import Derived.Test.YtiljppeamdoocaaPoints2
import Derived.Test.YtiljppeamdoocaaPoints4
import Derived.Test.YtiljppeamdoocaaPolyB
namespace Go.Proofs.Ytiljppeamdoocaa
open Go.RowKit

theorem thr_value {p : Int} {l : Pts} {h : List Int} (OP : PtsOk p l) (t : ThrIs p l h) {k : Nat} (hk : k < l.length) : evp (xs l k % p) h % p = ys l k := by
  have h1 := OP.p1
  have hb := OP.xb hk
  rw [Int.emod_eq_of_lt hb.1 hb.2.1, t.2.2.2, lsum_at _ _ _ hk, if_pos hk]
  obtain ⟨_, _, h3, _⟩ := ivI_ok OP hk
  unfold vI
  rw [Int.mul_assoc, Int.mul_emod, h3, Int.mul_one, Int.emod_emod_of_dvd _ (Int.dvd_refl p)]
  exact Int.emod_eq_of_lt hb.2.2.1 hb.2.2.2
theorem quiet_herePA {P : Program} {f : FuncId} {args : Array Value} {w : World} {a n : Nat} {v : Value}
    (h : ∀ n, Calls P f args (w.drewN n) fun e w' => e = .returned v ∧ ∃ m, w' = (w.drewN n).drewN m) :
    Calls P f args (w.drewN (a + n)) fun e w'' => e = .returned v ∧ ∃ m, w'' = w.drewN (a + m) :=
  (h (a + n)).mono fun _ _ ⟨he, m, hm⟩ => ⟨he, n + m, by rw [hm, World.drewN_drewN, Nat.add_assoc]⟩
theorem quiet_hereP {P : Program} {f : FuncId} {args : Array Value} {w : World} {n : Nat} {v : Value}
    (h : ∀ n, Calls P f args (w.drewN n) fun e w' => e = .returned v ∧ ∃ m, w' = (w.drewN n).drewN m) :
    Calls P f args (w.drewN n) fun e w'' => e = .returned v ∧ ∃ m, w'' = w.drewN m :=
  (h n).mono fun _ _ ⟨he, m, hm⟩ => ⟨he, n + m, by rw [hm, World.drewN_drewN]⟩
set_option maxRecDepth 100000 in
set_option maxHeartbeats 4000000 in
theorem pointsSays_walk (p : Int) (ao : Option Addr) (n cap : Nat) (l : Pts) (x : Int) (w : World) (hp : (Lit.int .i64 p).wf = true) (h1 : PairsIn .i64 .i64 w ao n l ∧ CapOk ao n cap) (hx : (Lit.int .i64 x).wf = true) :
    Calls Try.prog 8 #[.int .i64 p, .slice ao n cap, .int .i64 x] w fun e w' => e = .returned (.bool true) ∧ Below w.heap.size w w' := by
  obtain ⟨⟨hl, h63, _, hR'⟩, hna, hc, hc2⟩ := h1
  have hR : Hid (Reads w ao (cells2 (l.map pV))) := hR'
  have CE := Lib.hid (fun w' (hb : Below w.heap.size w w') => ref_PointsErr p l n ao cap w' hp hl h63 (hR.out.below hb))
  have CK := Lib.hid (fun w' (hb : Below w.heap.size w w') => points_Check p l n ao cap w' hp hl h63 hc (hR.out.below hb))
  by_cases hok : ptsE p l = 0
  · have OP := ptsOk_of hok
    have l1 := OP.len
    have p1 := OP.p1
    have p2 := OP.p2
    rw [hl] at l1
    have CT := Lib.hid (points_Through p l n ao cap w hp hl hc hR hok)
    have CA := Lib.hid (fun w' (hb : Below w.heap.size w w') => points_At p l x n ao cap w' hp hx hl hc (hR.out.below hb) hok)
    have CP := Lib.hid (fun w' (hb : Below w.heap.size w w') => ref_AtPoint p l x n ao cap w' OP hx hl (hR.out.below hb))
    obtain ⟨y, hy⟩ : ∃ y, ptsV p l (x % p) = y := ⟨_, rfl⟩
    rw [hy] at CA CP
    rw [hok] at CE CK
    have HOP := Lib.hid OP
    have HP := Lib.hid hp
    have HL := Lib.hid hl
    clear hok hy hp hx hl hna OP hR'
    go_enter Try.func8, Try.ntmps8
    go_wp2_with (first | (go_at_call 19; refine CT.out.mono ?_; rintro e w1 ⟨h, v, hthr, hb1, rfl, hown⟩; obtain ⟨a1, k1, rfl, r1, n1, kk1, kk2⟩ := own_data hown; have hpe := Lib.hid (polE_ok (hthr.pol HOP.out)); have hlen : ¬ n < h.length := (by have h2 := hthr.2.2.1; have h3 := HL.out; omega); have HTH := Lib.hid hthr; clear hthr hown) | (go_at_call 22; refine (CA.out _ hb1).mono ?_; rintro e w2 ⟨rfl, s2⟩; have hb2 := hb1.trans (s2.mono hb1.size)) | (go_at_call 48; refine (CE.out _ hb2).mono ?_; rintro e w3 ⟨rfl, s3⟩; have hb3 := hb2.trans (s3.mono hb2.size)) | (go_at_call 49; refine (CK.out _ hb3).mono ?_; rintro e w4 ⟨rfl, s4⟩; have hb4 := hb3.trans (s4.mono hb3.size); have r4 := ((r1.below s2).below s3).below s4) | (go_at_call 40; refine (ref_PolyErr p h a1 h.length k1 _ HP.out rfl (by omega) r4).mono ?_; rw [hpe.out]; rintro e w5 ⟨rfl, s5⟩; have hb5 := hb4.trans (s5.mono hb4.size); have r5 := r4.below s5) | (go_at_call 50; refine (CP.out _ hb5).mono ?_; rintro e w6 ⟨rfl, s6⟩; have hb6 := hb5.trans (s6.mono hb5.size); have r6 := Lib.hid (r5.below s6)))
    have HB6 := Lib.hid hb6
    clear r1 r4 r5 s2 s3 s4 s5 s6 hb1 hb2 hb3 hb4 hb5 hb6 hlen
    go_loopw [83] (fun vk wr => ∃ k : Nat, vk = .int .i64 k ∧ k ≤ n ∧ Hid (Below w6.heap.size w6 wr) ∧ Hid (Below w.heap.size w wr)) (fun vk _ => n - (intOf vk).toNat)
    case atStart => exact ⟨0, rfl, by omega, Below.refl _ _, HB6⟩
    case round =>
      obtain ⟨k, rfl, hk, hb, hbw⟩ := hrel
      by_cases hk1 : k < n
      · have hkl : k < l.length := by rw [HL.out]; exact hk1
        obtain ⟨b, o, rfl, c1, c2⟩ := pair_cells (hR.out.below hbw.out) (pts_get hkl)
        have hxy := HOP.out.xb hkl
        have hval := thr_value HOP.out HTH.out hkl
        obtain ⟨X, hX⟩ : ∃ x, xs l k = x := ⟨_, rfl⟩
        obtain ⟨Y, hY⟩ : ∃ y, ys l k = y := ⟨_, rfl⟩
        dsimp only at c1 c2
        rw [hX] at c1
        rw [hY] at c2
        rw [hX, hY] at hxy hval
        have hbb : Below wr.heap.size wr (wr.alloc (.cells #[.int .i64 X, .int .i64 Y] 71)) := (Below.refl _ wr).alloc (Nat.le_refl _) _
        have hb2 := Lib.hid (hb.out.trans (hbb.mono hb.out.size))
        have hbw2 := Lib.hid (hbw.out.trans (hbb.mono hbw.out.size))
        have HXw : (Lit.int .i64 X).wf = true := wf_small p2 hxy.1 hxy.2.1
        have CV : Hid (∀ m, Calls Try.prog 46 #[.int .i64 p, .slice a1 h.length k1, .int .i64 X] ((wr.alloc (.cells #[.int .i64 X, .int .i64 Y] 71)).drewN m) fun e w' => e = .returned (.int .i64 Y) ∧ ∃ q, w' = ((wr.alloc (.cells #[.int .i64 X, .int .i64 Y] 71)).drewN m).drewN q) := fun m => by
          have h3 := ref_ValueAt p h X a1 h.length k1 ((wr.alloc (.cells #[.int .i64 X, .int .i64 Y] 71)).drewN m) p1 p2 HXw rfl (by omega) HTH.out.2.1 ((r6.out.below hb2.out).drew m)
          rwa [hval] at h3
        clear hX hY hkl hval hbb HXw hb hbw
        go_wp2_with fail
        go_quiet ((go_at_call 46; (first | (with_reducible exact quiet_hereP CV.out) | (with_reducible exact quiet_herePA CV.out))))
        go_wp2_with fail
        go_roundw
        case rel => exact ⟨k + 1, by go_num, by omega, below_drewN hb2.out _, below_drewN hbw2.out _⟩
        case measure => simp [intOf]; omega
      · go_wp2_with fail
        go_ret
        exact ⟨rfl, hbw.out⟩
  · have CT := Lib.hid (points_Through_bad p l n ao cap w hp hl h63 hc hR hok)
    have CA := Lib.hid (fun w' (hb : Below w.heap.size w w') => points_At_bad p l x n ao cap w' hp hl h63 hc (hR.out.below hb) hok)
    obtain ⟨c, hcc⟩ : ∃ c, ptsE p l = c := ⟨_, rfl⟩
    rw [hcc] at CT CA CE CK hok
    have hz2 : (c != 0) = true := by simp [hok]
    clear hok hcc hp hx hl hna hR'
    go_enter Try.func8, Try.ntmps8
    go_wp2_with (first | (go_at_call 19; refine CT.out.mono ?_; rintro e w1 ⟨rfl, hb1⟩) | (go_at_call 22; refine (CA.out _ hb1).mono ?_; rintro e w2 ⟨rfl, s2⟩; have hb2 := hb1.trans (s2.mono hb1.size)) | (go_at_call 48; refine (CE.out _ hb2).mono ?_; rintro e w3 ⟨rfl, s3⟩; have hb3 := hb2.trans (s3.mono hb2.size)) | (go_at_call 49; refine (CK.out _ hb3).mono ?_; rintro e w4 ⟨rfl, s4⟩; have hb4 := hb3.trans (s4.mono hb3.size)))
    go_ret
    exact ⟨by simp, hb4⟩
end Go.Proofs.Ytiljppeamdoocaa
