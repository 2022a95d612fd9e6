/- poly.Product. -/
import Derived.Test.YtiljppeamdoocaaPoly2
namespace Go.Proofs.Ytiljppeamdoocaa
open Go.RowKit

def PolPost (base : Nat) (p : Int) (c : Nat → Int) (w : World) (e : Ending) (w' : World) : Prop := ∃ h, IsPol p c h ∧ ListPost base h w e w'
theorem sh_nil (i k : Nat) : sh [] i k = 0 := by
  unfold sh
  split
  · exact co_nil _
  · rfl
theorem conv_nil_l (g : List Int) (k : Nat) : conv [] g k = 0 := rfl
theorem conv_nil_r (f : List Int) (k : Nat) : conv f [] k = 0 := by
  have h : ∀ i, cvn f [] i k = 0 := by
    intro i
    induction i with
    | zero => rfl
    | succ i ih => unfold cvn; rw [ih, sh_nil, Int.mul_zero]; rfl
  exact h _
theorem isPol_nil {p : Int} {c : Nat → Int} (h : ∀ k, c k = 0) : IsPol p c [] := ⟨trm_nil, fun k => by rw [co_nil, h, Int.zero_emod]⟩
/-- The out row while f's place i is taken and g's places below j. -/
def prodS (p : Int) (f g : List Int) (i j k : Nat) : Int := (cvn f g i k + co f i * (if k < i + j then sh g i k else 0)) % p
theorem prodS_zero (p : Int) (f g : List Int) (i k : Nat) : prodS p f g i 0 k = cvn f g i k % p := by
  unfold prodS
  by_cases h : k < i
  · rw [if_pos (by omega), sh_lt g h, Int.mul_zero, Int.add_zero]
  · rw [if_neg (by omega), Int.mul_zero, Int.add_zero]
theorem prodS_full (p : Int) (f g : List Int) (i k : Nat) : prodS p f g i g.length k = cvn f g (i + 1) k % p := by
  unfold prodS
  show _ = (cvn f g i k + co f i * sh g i k) % p
  by_cases h : k < i + g.length
  · rw [if_pos h]
  · rw [if_neg h, sh_ge g (by omega)]
theorem prodS_step (p : Int) (f g : List Int) (i j k : Nat) : prodS p f g i (j + 1) k = if k = i + j then (prodS p f g i j k + co f i * co g j) % p else prodS p f g i j k := by
  unfold prodS
  by_cases h : k = i + j
  · subst h
    rw [if_pos rfl, if_pos (by omega), if_neg (by omega), sh_add, Int.mul_zero, Int.add_zero, Int.emod_add_emod]
  · rw [if_neg h]
    by_cases h2 : k < i + j
    · rw [if_pos h2, if_pos (by omega)]
    · rw [if_neg h2, if_neg (by omega)]
theorem pol_bd {p a : Int} (hp : 1 < p) (hp2 : p ≤ 997) (x : Int) (ha : a = x % p) : 0 ≤ a ∧ a ≤ 996 := by
  subst ha
  have h1 := Int.emod_nonneg x (show p ≠ 0 by omega)
  have h2 := Int.emod_lt_of_pos x (show 0 < p by omega)
  omega
theorem mul_bd {a b M : Int} (ha : 0 ≤ a) (ha2 : a ≤ M) (hb : 0 ≤ b) (hb2 : b ≤ M) : 0 ≤ a * b ∧ a * b ≤ M * M := ⟨Int.mul_nonneg ha hb, Int.mul_le_mul ha2 hb2 hb (by omega)⟩
set_option maxRecDepth 100000 in
set_option maxHeartbeats 2000000 in
theorem poly_Product (p : Int) (f g : List Int) (nf ng : Nat) (ao bo : Option Addr) (ca cb : Nat) (w : World) (hp : 2 ≤ p) (hp2 : p ≤ 997) (hlf : f.length = nf) (hlg : g.length = ng) (hnf : nf ≤ 1000000) (hng : ng ≤ 1000000)
    (hf : Hid (InF p f)) (hg : Hid (InF p g)) (hF : Hid (Reads w ao (f.map (Value.int .i64)))) (hG : Hid (Reads w bo (g.map (Value.int .i64)))) :
    Calls Try.prog 79 #[.int .i64 p, .slice ao nf ca, .slice bo ng cb] w (PolPost w.heap.size p (conv f g) w) := by
  have HLF := Lib.hid hlf
  have HLG := Lib.hid hlg
  by_cases h0 : nf = 0 ∨ ng = 0
  · have hE : Hid (PolPost w.heap.size p (conv f g) w (.returned (.slice none 0 0)) w) := by
      refine ⟨[], isPol_nil fun k => ?_, _, rfl, World.ownsRow_nil _ _ _ _, Below.refl _ _⟩
      rcases h0 with h | h
      · rw [List.eq_nil_of_length_eq_zero (hlf.trans h)]; rfl
      · rw [List.eq_nil_of_length_eq_zero (hlg.trans h)]; exact conv_nil_r f k
    by_cases h1 : nf = 0
    · have d1 : ((nf : Int) == 0) = true := by simp [h1]
      clear hlf hlg h0 h1
      go_enter Try.func79, Try.ntmps79
      go_wp2_with fail
      go_ret
      exact hE.out
    · have d1 : ((nf : Int) == 0) = false := by simp [h1]
      have d2 : ((ng : Int) == 0) = true := by simp; omega
      clear hlf hlg h0 h1
      go_enter Try.func79, Try.ntmps79
      go_wp2_with fail
      go_ret
      exact hE.out
  · have d1 : ((nf : Int) == 0) = false := by simp; omega
    have d2 : ((ng : Int) == 0) = false := by simp; omega
    obtain ⟨n, hn⟩ : ∃ n, nf + ng - 1 = n := ⟨_, rfl⟩
    have w1 : IntKind.i64.wrap ((nf : Int) + ng) = (nf : Int) + ng := IntWalk.i64_in _ (by omega)
    have w2 : IntKind.i64.wrap ((nf : Int) + ng - 1) = (n : Int) := by rw [show (nf : Int) + ng - 1 = n by omega]; exact IntWalk.i64_in _ (by omega)
    have hnn : Hid (nf + ng = n + 1) := by show _ = _; omega
    have hnb : n ≤ 2000000 := by omega
    clear hlf hlg h0 hn
    go_enter Try.func79, Try.ntmps79
    go_wp2_with (at_make; refine make_own rfl _ _ 24 rfl w.heap.size 3 _ 8 Try.underlying24 intRow rfl _ _ _ _ n (by rfl) (by rfl) rfl rfl (by omega) (by unfold maxLen; omega) (Nat.le_refl _) ?_; intro w1 hown hg1)
    obtain ⟨G, hgs⟩ : ∃ g, w.heap.size = g := ⟨_, rfl⟩
    have hb1 : Hid (Below w.heap.size w w1) := below_of_grown hg1 (Nat.le_refl _) (by intro k hk; cases hk)
    have hO0 := hown.congr (f' := iV (prodS p f g 0 0)) fun j _ => by
      unfold iV
      rw [prodS_zero]
      show _ = Value.int .i64 (0 % p)
      rw [Int.zero_emod]
    have hO1 : Hid (Own w1 w.heap.size 3 G n n (iV (prodS p f g 0 0))) := by
      have e : Own w1 w.heap.size 3 w.heap.size n n (iV (prodS p f g 0 0)) = Own w1 w.heap.size 3 G n n (iV (prodS p f g 0 0)) := by rw [hgs]
      show Own _ _ _ _ _ _ _
      rw [← e]; exact hO0
    rw [hgs]
    clear hown hg1 hO0 hgs
    go_loopw [29] (fun vx wr => ∃ i : Nat, vx = .int .i64 i ∧ i ≤ nf ∧ Hid (Own wr w.heap.size 3 G n n (iV (prodS p f g i 0))) ∧ Hid (Below w.heap.size w wr)) (fun vx _ => nf - (intOf vx).toNat)
    case atStart => exact ⟨0, rfl, by omega, hO1, hb1⟩
    case round =>
      obtain ⟨i, rfl, hin, hO, hb⟩ := hrel
      by_cases hi1 : i < nf
      · obtain ⟨a, ha⟩ : ∃ a, co f i = a := ⟨_, rfl⟩
        obtain ⟨b1, o1, rfl, c1⟩ := (hF.out.below hb.out) i (.int .i64 a) (by rw [List.getElem?_map, co_some (by rw [HLF.out]; exact hi1), ha]; rfl)
        have HA := Lib.hid ha
        have ha1 := hf.out.co (by omega) i
        rw [ha] at ha1
        clear ha
        go_wp2_with fail
        go_loopw [36] (fun vy wi => ∃ j : Nat, vy = .int .i64 j ∧ j ≤ ng ∧ Hid (Own wi w.heap.size 3 G n n (iV (prodS p f g i j))) ∧ Hid (Below w.heap.size w wi)) (fun vy _ => ng - (intOf vy).toNat)
        case atStart => exact ⟨0, rfl, by omega, hO, hb⟩
        case round =>
          obtain ⟨j, rfl, hjn, hO2, hb2⟩ := hrel
          by_cases hj1 : j < ng
          · obtain ⟨b, hbj⟩ : ∃ b, co g j = b := ⟨_, rfl⟩
            obtain ⟨b2, o2, rfl, c2⟩ := (hG.out.below hb2.out) j (.int .i64 b) (by rw [List.getElem?_map, co_some (by rw [HLG.out]; exact hj1), hbj]; rfl)
            have hb1' := hg.out.co (by omega) j
            rw [hbj] at hb1'
            obtain ⟨m, hm⟩ : ∃ m, i + j = m := ⟨_, rfl⟩
            have hmi : (i : Int) + j = m := by omega
            have hmn : m < n := by have := hnn.out; omega
            have m0 : (0 : Int) ≤ m := by omega
            have m1 : (m : Int) < n := by omega
            have wm : IntKind.i64.wrap (m : Int) = m := IntWalk.i64_in _ (by omega)
            obtain ⟨s, hs⟩ : ∃ s, prodS p f g i j m = s := ⟨_, rfl⟩
            have hsb := pol_bd (by omega) hp2 _ hs.symm
            have c3 := hO2.out.cell hmn
            have f3 := hO2.out.frozen m
            unfold iV at c3
            rw [hs] at c3
            have hx := mul_bd ha1.1 (show a ≤ 996 by omega) hb1'.1 (show b ≤ 996 by omega)
            obtain ⟨x, hxe⟩ : ∃ x, a * b = x := ⟨_, rfl⟩
            rw [hxe] at hx
            have wx : IntKind.i64.wrap x = x := IntWalk.i64_in _ (by omega)
            have ws : IntKind.i64.wrap (s + x) = s + x := IntWalk.i64_in _ (by omega)
            obtain ⟨r, hr⟩ : ∃ r, (s + x) % p = r := ⟨_, rfl⟩
            have hrt : Int.tmod (s + x) p = r := by rw [Int.tmod_eq_emod_of_nonneg (by omega)]; exact hr
            have hp0 : ¬ p = 0 := by omega
            have wr1 : IntKind.i64.wrap r = r := IntWalk.i64_in _ (by have h1 := Int.emod_nonneg (s + x) hp0; have h2 := Int.emod_lt_of_pos (s + x) (show 0 < p by omega); omega)
            have st := hO2.out.store m (.int .i64 r)
            have hO3 := Lib.hid (st.1.congr (f' := iV (prodS p f g i (j + 1))) fun k _ => by
              unfold iV
              rw [prodS_step, hm]
              by_cases hk : k = m
              · subst hk; rw [if_pos rfl, if_pos rfl, hs, HA.out, hbj, hxe, hr]
              · rw [if_neg hk, if_neg hk])
            have hb3 := Lib.hid (hO2.out.belowStore hb2.out (Nat.le_refl _) m (.int .i64 r))
            clear st hs hbj hm
            go_wp2_with fail
            go_roundw
            case rel => exact ⟨j + 1, by go_num, by omega, hO3, hb3⟩
            case measure => simp [intOf]; omega
          · have hO3 := Lib.hid (hO2.out.congr (f' := iV (prodS p f g (i + 1) 0)) fun k _ => by
              have hjn2 : j = g.length := by rw [HLG.out]; omega
              unfold iV
              rw [hjn2, prodS_full, prodS_zero])
            go_wp2_with fail
            go_roundw
            case rel => exact ⟨i + 1, by go_num, by omega, hO3, hb2⟩
            case measure => simp [intOf]; omega
      · have hin2 : i = f.length := by rw [HLF.out]; omega
        have hO3 := hO.out.congr (f' := iV (fun k => conv f g k % p)) fun k _ => by
          unfold iV
          rw [prodS_zero, hin2]; rfl
        have hR : Hid (Reads wr (some ⟨G, 0, none⟩) ((mkL n fun k => conv f g k % p).map (Value.int .i64))) := by
          show Reads _ _ _
          rw [map_mkL]; exact hO3.reads
        have hpol : Hid (IsPol p (conv f g) (trim (mkL n fun k => conv f g k % p))) := isPol_trim fun k => by
          rw [co_mkL]
          split
          · rfl
          · rw [show conv f g k = 0 from cvn_top f g _ _ (by rw [HLF.out, HLG.out]; have := hnn.out; omega), Int.zero_emod]
        clear hO3
        go_wp2_with (go_at_call 76; refine (poly_Trim (mkL n fun k => conv f g k % p) n (some ⟨G, 0, none⟩) n w.heap.size _ (by omega) (mkL_length _ _) (Nat.le_refl _) (by omega) (fun h => by cases h) hR hb.out.size).mono ?_; rintro e w' ⟨v, rfl, hv1, hv2⟩)
        go_ret
        exact ⟨_, hpol.out, v, rfl, hv1, hb.out.trans hv2⟩
end Go.Proofs.Ytiljppeamdoocaa
