/- points.At, and AtPoint of the reference. -/
import Derived.Test.YtiljppeamdoocaaPoints3
import Derived.Test.YtiljppeamdoocaaRest
namespace Go.Proofs.Ytiljppeamdoocaa
open Go.RowKit

theorem polE_ok {p : Int} {f : List Int} (h : PolOk p f) : polE p f = 0 := by
  unfold polE
  rw [fldE_zero h.p1 h.p2 h.pr, if_neg (by omega), if_neg (by have := h.len; omega)]
  have ha : f.any (outF p) = false := by
    rw [List.any_eq_false]
    intro x hx
    have := h.inF x hx
    unfold outF
    simp
    omega
  rw [ha, if_neg (by simp), if_neg]
  rintro ⟨h0, h1⟩
  rcases h.trm with h2 | h2
  · omega
  · exact h2 h1
theorem ThrIs.pol {p : Int} {l : Pts} {h : List Int} (OP : PtsOk p l) (t : ThrIs p l h) : PolOk p h := ⟨OP.p1, OP.p2, OP.pr, by have := t.2.2.1; have := OP.len; omega, t.2.1, t.1⟩
theorem ints_B0 {w : World} {ao : Option Addr} {cap : Nat} {zs : List Int} (h : Reads w ao (zs.map (Value.int .i64))) : IntsB w.heap.size w ao cap zs := by
  rcases Nat.eq_zero_or_pos zs.length with h0 | hne
  · exact .inl (List.eq_nil_of_length_eq_zero h0)
  · obtain ⟨b, o, rfl, hc⟩ := h 0 _ (by rw [List.getElem?_map, List.getElem?_eq_getElem hne]; rfl)
    refine .inr ⟨b, o, rfl, World.block_lt_of_cell? w _ hc, fun j hj => ?_⟩
    obtain ⟨b2, o2, ha, hc2⟩ := h j _ (by rw [List.getElem?_map, List.getElem?_eq_getElem hj]; rfl)
    injection ha with ha
    injection ha with e1 e2
    subst e1 e2
    rw [hc2, List.getElem?_eq_getElem hj]; rfl
noncomputable def ptsV (p : Int) (l : Pts) (z : Int) : Int := lsum (xs l) (vI p l) l.length z l.length % p
set_option maxRecDepth 20000 in
set_option maxHeartbeats 1000000 in
theorem points_At_bad (p : Int) (l : Pts) (x : Int) (n : Nat) (ao : Option Addr) (cap : Nat) (w : World) (hp : (Lit.int .i64 p).wf = true) (hl : l.length = n) (h63 : n ≤ 9223372036854775807) (hc : n ≤ cap) (hR : Hid (Reads w ao (cells2 (l.map pV)))) (hb : ptsE p l ≠ 0) :
    Calls Try.prog 22 #[.int .i64 p, .slice ao n cap, .int .i64 x] w fun e w' => e = .returned (.tuple #[.int .i64 0, .int .i64 (ptsE p l)]) ∧ Below w.heap.size w w' := by
  have C1 := Lib.hid (points_Through_bad p l n ao cap w hp hl h63 hc hR hb)
  obtain ⟨c, hcc⟩ : ∃ c, ptsE p l = c := ⟨_, rfl⟩
  rw [hcc] at C1 hb ⊢
  have hc0 : (c != 0) = true := by simp [hb]
  clear hp hl hb hcc
  go_enter Try.func22, Try.ntmps22
  go_wp2_with (go_at_call 19; refine C1.out.mono ?_; rintro e w' ⟨rfl, hb1⟩)
  go_ret2
  exact ⟨rfl, hb1⟩
set_option maxRecDepth 20000 in
set_option maxHeartbeats 1000000 in
theorem points_At (p : Int) (l : Pts) (x : Int) (n : Nat) (ao : Option Addr) (cap : Nat) (w : World) (hp : (Lit.int .i64 p).wf = true) (hx : (Lit.int .i64 x).wf = true) (hl : l.length = n) (hc : n ≤ cap) (hR : Hid (Reads w ao (cells2 (l.map pV)))) (hok : ptsE p l = 0) :
    Calls Try.prog 22 #[.int .i64 p, .slice ao n cap, .int .i64 x] w fun e w' => e = .returned (.tuple #[.int .i64 (ptsV p l (x % p)), .int .i64 0]) ∧ Below w.heap.size w w' := by
  have C1 := Lib.hid (points_Through p l n ao cap w hp hl hc hR hok)
  have OP := Lib.hid (ptsOk_of hok)
  have HP := Lib.hid hp
  have HX := Lib.hid hx
  clear hp hx hl hok
  go_enter Try.func22, Try.ntmps22
  go_wp2_with (first | (go_at_call 19; refine C1.out.mono ?_; rintro e w1 ⟨h, v, hthr, hb1, rfl, hown⟩; obtain ⟨a1, k1, rfl, r1, n1, kk1, kk2⟩ := own_data hown) | (go_at_call 21; refine (poly_At p h x a1 h.length k1 _ HP.out HX.out rfl (ints_B0 r1) r1 (polE_ok (hthr.pol OP.out))).mono ?_; rintro e w2 ⟨rfl, hb2⟩))
  go_ret2
  refine ⟨?_, hb1.trans (hb2.mono hb1.size)⟩
  unfold ptsV
  rw [← hthr.2.2.2]; rfl
theorem pw_succ (X : Nat → Int) (i e k : Nat) : pw X i e (k + 1) = if k = i then pw X i e k else pw X i e k * (X i - X k) ^ e := rfl
/-- A term's number when the first k places are taken in. -/
def termA (p : Int) (l : Pts) (z : Int) (i k : Nat) : Int := ys l i * pz (xs l) i z k * pw (xs l) i (p.toNat - 2) k % p
theorem mod3 (a b c p : Int) : a % p * (b % p) % p * (c % p) % p = a * b * c % p := by rw [← Int.mul_emod a b p, ← Int.mul_emod]
theorem term_step {p : Int} {l : Pts} {z : Int} {i k : Nat} (hk : k ≠ i) {y u : Int} (hy : y = termA p l z i k) (hu : u = (xs l i - xs l k) ^ (p.toNat - 2) % p) : y * ((z - xs l k) % p) % p * u % p = termA p l z i (k + 1) := by
  unfold termA at hy ⊢
  rw [pz_succ, pw_succ, if_neg hk, if_neg hk, hy, hu, mod3]
  congr 1
  grind
theorem term_skip {p : Int} {l : Pts} {z : Int} {i k : Nat} (hk : k = i) : termA p l z i (k + 1) = termA p l z i k := by
  unfold termA
  rw [pz_succ, pw_succ, if_pos hk, if_pos hk]
noncomputable def wI (p : Int) (l : Pts) (i : Nat) : Int := ys l i * pw (xs l) i (p.toNat - 2) l.length
theorem sum_step {p : Int} {l : Pts} {z o y : Int} {i : Nat} (ho : o = lsum (xs l) (wI p l) l.length z i % p) (hy : y = termA p l z i l.length) : (o + y) % p = lsum (xs l) (wI p l) l.length z (i + 1) % p := by
  show _ = (lsum (xs l) (wI p l) l.length z i + wI p l i * pz (xs l) i z l.length) % p
  unfold termA at hy
  unfold wI at ho ⊢
  rw [ho, hy, ← Int.add_emod]
  congr 2
  grind
theorem sum_same {p : Int} {l : Pts} (OP : PtsOk p l) (z : Int) : lsum (xs l) (wI p l) l.length z l.length % p = ptsV p l z := by
  unfold ptsV
  refine lsum_congr _ _ _ _ _ _ _ fun i hi => ?_
  have h1 := OP.p1
  obtain ⟨_, _, h3, _⟩ := ivI_ok OP hi
  have h4 := term_same OP.pr (by omega) (xs l) i l.length (fun k hk hne => OP.xne hi hk hne) h3
  unfold wI vI
  rw [Int.mul_emod, h4, ← Int.mul_emod]
set_option maxRecDepth 100000 in
set_option maxHeartbeats 4000000 in
theorem ref_AtPoint (p : Int) (l : Pts) (x : Int) (n : Nat) (ao : Option Addr) (cap : Nat) (w : World) (OP : PtsOk p l) (hx : (Lit.int .i64 x).wf = true) (hl : l.length = n) (hR : Hid (Reads w ao (cells2 (l.map pV)))) :
    Calls Try.prog 50 #[.int .i64 p, .slice ao n cap, .int .i64 x] w fun e w' => e = .returned (.int .i64 (ptsV p l (x % p))) ∧ Below w.heap.size w w' := by
  have hxb := bd_of_wf hx
  have p1 := OP.p1
  have p2 := OP.p2
  have l1 := OP.len
  rw [hl] at l1
  have HOP := Lib.hid OP
  have HL := Lib.hid hl
  have hp0 : ¬ p = 0 := by omega
  have z0 : 0 ≤ x % p := Int.emod_nonneg _ hp0
  have z1 : x % p < p := Int.emod_lt_of_pos _ (by omega)
  have CX := Lib.hid (fun w => ref_mod x p w hxb.1 hxb.2 (by omega) (by omega))
  obtain ⟨z, hz⟩ : ∃ z, x % p = z := ⟨_, rfl⟩
  rw [hz] at CX z0 z1 ⊢
  have w2 : IntKind.i64.wrap (p - 2) = p - 2 := IntWalk.i64_in _ (by omega)
  clear OP hx hl hz hxb
  go_enter Try.func50, Try.ntmps50
  go_wp2_with fail
  go_loopw [7, 15] (fun vo vi wr => ∃ (i : Nat) (o : Int), vi = .int .i64 i ∧ i ≤ n ∧ vo = .int .i64 o ∧ 0 ≤ o ∧ o ≤ 996 ∧ Hid (o = lsum (xs l) (wI p l) l.length z i % p) ∧ Hid (Below w.heap.size w wr)) (fun _ vi _ => n - (intOf vi).toNat)
  case atStart => exact ⟨0, 0, rfl, by omega, rfl, by omega, by omega, (Int.zero_emod p).symm, Below.refl _ _⟩
  case round =>
    obtain ⟨i, o, rfl, hin, rfl, o0, o1, ho, hb⟩ := hrel
    by_cases hi1 : i < n
    · have hil : i < l.length := by rw [HL.out]; exact hi1
      obtain ⟨b, ob, rfl, c1, c2⟩ := pair_cells (hR.out.below hb.out) (pts_get hil)
      have hxy := HOP.out.xb hil
      obtain ⟨X, hX⟩ : ∃ x, xs l i = x := ⟨_, rfl⟩
      obtain ⟨Y, hY⟩ : ∃ y, ys l i = y := ⟨_, rfl⟩
      dsimp only at c1 c2
      rw [hX] at c1
      rw [hY] at c2
      rw [hX, hY] at hxy
      have HX := Lib.hid hX
      have ht0 : Hid (Y = termA p l z i 0) := by
        show Y = ys l i * 1 * 1 % p
        rw [hY, Int.mul_one, Int.mul_one]
        exact (Int.emod_eq_of_lt hxy.2.2.1 hxy.2.2.2).symm
      have hbb := hb.out.trans ((Below.refl _ wr).alloc hb.out.size (.cells #[.int .i64 X, .int .i64 Y] 71))
      have HB1 := Lib.hid hbb
      have hbx1 : Hid ((wr.alloc (.cells #[.int .i64 X, .int .i64 Y] 71)).heap[wr.heap.size]? = some (.cells #[.int .i64 X, .int .i64 Y] 71 (0, 0))) := heap_alloc_new wr _
      clear hX hY hil hbb
      go_wp2_with fail
      obtain ⟨B, hB⟩ : ∃ B, wr.heap.size = B := ⟨_, rfl⟩
      rw [hB] at hbx1 ⊢
      clear hB
      go_loopw [10, 24] (fun vy vk wi => ∃ (k : Nat) (y : Int), vk = .int .i64 k ∧ k ≤ n ∧ vy = .int .i64 y ∧ 0 ≤ y ∧ y ≤ 996 ∧ Hid (y = termA p l z i k) ∧ Hid (wi.heap[B]? = some (.cells #[.int .i64 X, .int .i64 Y] 71 (0, 0))) ∧ Hid (Below w.heap.size w wi)) (fun _ vk _ => n - (intOf vk).toNat)
      case atStart => exact ⟨0, Y, rfl, by omega, rfl, hxy.2.2.1, by omega, ht0, hbx1, HB1⟩
      case round =>
        obtain ⟨k, y, rfl, hkn, rfl, y0, y1, hy, hbx, hb⟩ := hrel
        by_cases hk1 : k < n
        · obtain ⟨b3, o3, ha3, c3, c4⟩ := pair_cells (hR.out.below hb.out) (pts_get (l := l) (k := k) (by rw [HL.out]; exact hk1))
          injection ha3 with ha3
          injection ha3 with e1 e2
          subst e1 e2
          have hxk := HOP.out.xb (k := k) (by rw [HL.out]; exact hk1)
          obtain ⟨x2, hx2⟩ : ∃ x, xs l k = x := ⟨_, rfl⟩
          obtain ⟨y2, hy2⟩ : ∃ y, ys l k = y := ⟨_, rfl⟩
          dsimp only at c3 c4
          rw [hx2] at c3 hxk
          rw [hy2] at c4 hxk
          have HX2 := Lib.hid hx2
          have hbb : Below wr.heap.size wr (wr.alloc (.cells #[.int .i64 x2, .int .i64 y2] 71)) := (Below.refl _ wr).alloc (Nat.le_refl _) _
          have hb2 := Lib.hid (hb.out.trans (hbb.mono hb.out.size))
          have hbx2 : (wr.alloc (.cells #[.int .i64 x2, .int .i64 y2] 71)).heap[B]? = some (.cells #[.int .i64 X, .int .i64 Y] 71 (0, 0)) := heap_alloc_old _ _ hbx.out
          have HBX2 := Lib.hid hbx2
          have k1 : (wr.alloc (.cells #[.int .i64 x2, .int .i64 y2] 71)).cell? ⟨B, 0, none⟩ = some (.int .i64 X) := heap_cell hbx2 0
          clear hx2 hy2 hbb hbx2 hb hbx
          by_cases hki : k = i
          · have t1 : ((i : Int) != (k : Int)) = false := by simp; omega
            have hy3 : Hid (y = termA p l z i (k + 1)) := by show _ = _; rw [term_skip hki]; exact hy.out
            clear hki hy
            go_wp2_with fail
            go_roundw
            case rel => exact ⟨k + 1, y, by go_num, by omega, rfl, y0, y1, hy3, HBX2, hb2⟩
            case measure => simp [intOf]; omega
          · have t1 : ((i : Int) != (k : Int)) = true := by simp; omega
            have w3 : IntKind.i64.wrap (z - x2) = z - x2 := IntWalk.i64_in _ (by omega)
            have w4 : IntKind.i64.wrap (X - x2) = X - x2 := IntWalk.i64_in _ (by omega)
            have C2 := Lib.hid (fun w => ref_mod (z - x2) p w (by omega) (by omega) (by omega) (by omega))
            have C3 := Lib.hid (fun w => ref_mod (X - x2) p w (by omega) (by omega) (by omega) (by omega))
            obtain ⟨u, hu⟩ : ∃ u, (z - x2) % p = u := ⟨_, rfl⟩
            obtain ⟨v, hv⟩ : ∃ v, (X - x2) % p = v := ⟨_, rfl⟩
            have hub := pol_bd (by omega) p2 _ hu.symm
            have hvb := pol_bd (by omega) p2 _ hv.symm
            rw [hu] at C2
            rw [hv] at C3
            have C4 : Hid (∀ W, Calls Try.prog 104 #[.int .i64 v, .int .i64 (p - 2), .int .i64 p] W fun e w' => e = .returned (.int .i64 (pwm v (p.toNat - 2) p)) ∧ ∃ n, w' = W.drewN n) := fun W => by
              have h := ref_PowOf 10 v (p.toNat - 2) p W (by omega) (by omega) (by omega) (by omega) (by omega) (by omega)
              rwa [show ((p.toNat - 2 : Nat) : Int) = p - 2 by omega] at h
            obtain ⟨t, ht⟩ : ∃ t, pwm v (p.toNat - 2) p = t := ⟨_, rfl⟩
            have htb := pol_bd (by omega) p2 (v ^ (p.toNat - 2)) (show t = _ from ht.symm)
            rw [ht] at C4
            have hm1 := mul_bd y0 y1 hub.1 hub.2
            obtain ⟨m, hm⟩ : ∃ m, y * u = m := ⟨_, rfl⟩
            rw [hm] at hm1
            have wm : IntKind.i64.wrap m = m := IntWalk.i64_in _ (by omega)
            obtain ⟨r, hr⟩ : ∃ r, m % p = r := ⟨_, rfl⟩
            have hrt : Int.tmod m p = r := by rw [Int.tmod_eq_emod_of_nonneg (by omega)]; exact hr
            have hrb := pol_bd (by omega) p2 _ hr.symm
            have wr1 : IntKind.i64.wrap r = r := IntWalk.i64_in _ (by omega)
            have hm2 := mul_bd hrb.1 hrb.2 htb.1 htb.2
            obtain ⟨m', hm'⟩ : ∃ m, r * t = m := ⟨_, rfl⟩
            rw [hm'] at hm2
            have wm' : IntKind.i64.wrap m' = m' := IntWalk.i64_in _ (by omega)
            obtain ⟨r', hr'⟩ : ∃ r, m' % p = r := ⟨_, rfl⟩
            have hrt' : Int.tmod m' p = r' := by rw [Int.tmod_eq_emod_of_nonneg (by omega)]; exact hr'
            have hrb' := pol_bd (by omega) p2 _ hr'.symm
            have wr1' : IntKind.i64.wrap r' = r' := IntWalk.i64_in _ (by omega)
            have hy3 : Hid (r' = termA p l z i (k + 1)) := by
              show _ = _
              have hte : t = (xs l i - xs l k) ^ (p.toNat - 2) % p := by rw [HX.out, HX2.out, ← ht, ← hv]; exact pwm_mod _ _ _
              rw [← term_step hki hy.out hte, HX2.out, hu, hm, hr, hm', hr']
            clear hki hy hu hv ht hr hr'
            go_wp2_with fail
            go_quiet ((first | (go_at_call 102; (first | (with_reducible exact quiet_on (fun W' => CX.out W')) | (with_reducible exact quiet_at (fun W' => CX.out W')) | (with_reducible exact quiet_on (fun W' => C2.out W')) | (with_reducible exact quiet_at (fun W' => C2.out W')) | (with_reducible exact quiet_on (fun W' => C3.out W')) | (with_reducible exact quiet_at (fun W' => C3.out W')))) | (go_at_call 104; (first | (with_reducible exact quiet_on (fun W' => C4.out W')) | (with_reducible exact quiet_at (fun W' => C4.out W'))))))
            go_wp2_with fail
            go_roundw
            case rel => exact ⟨k + 1, r', by go_num, by omega, rfl, hrb'.1, hrb'.2, hy3, HBX2.out, below_drewN hb2.out _⟩
            case measure => simp [intOf]; omega
        · have hkl : k = l.length := by rw [HL.out]; omega
          have ws : IntKind.i64.wrap (o + y) = o + y := IntWalk.i64_in _ (by omega)
          obtain ⟨r, hr⟩ : ∃ r, (o + y) % p = r := ⟨_, rfl⟩
          have hrt : Int.tmod (o + y) p = r := by rw [Int.tmod_eq_emod_of_nonneg (by omega)]; exact hr
          have hrb := pol_bd (by omega) p2 _ hr.symm
          have wr1 : IntKind.i64.wrap r = r := IntWalk.i64_in _ (by omega)
          have hs : Hid (r = lsum (xs l) (wI p l) l.length z (i + 1) % p) := by
            show _ = _
            rw [← hr]
            exact sum_step ho.out (by rw [← hkl]; exact hy.out)
          clear hkl hr
          go_wp2_with fail
          go_roundw
          case rel => exact ⟨i + 1, r, by go_num, by omega, rfl, hrb.1, hrb.2, hs, hb⟩
          case measure => simp [intOf]; omega
    · have hfin : Hid (o = ptsV p l z) := by
        show _ = _
        rw [ho.out, show i = l.length by rw [HL.out]; omega]
        exact sum_same HOP.out z
      go_wp2_with fail
      go_ret
      exact ⟨ret_int hfin.out, hb.out⟩
end Go.Proofs.Ytiljppeamdoocaa
