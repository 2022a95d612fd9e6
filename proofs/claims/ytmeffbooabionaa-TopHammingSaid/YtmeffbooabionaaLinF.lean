/- The reference's AllWords and High. -/
import Derived.Test.YtmeffbooabionaaLinD
set_option linter.unusedVariables false
set_option linter.unusedSimpArgs false
namespace Go.Proofs.Ytmeffbooabionaa
open Go.RowKit

/-! ### Sums by the bits of a number -/
def xsel (l : List Nat) (s : Nat) : Nat → Nat
  | 0 => 0
  | k + 1 => xsel l s k ^^^ (if s.testBit k then l.getD k 0 else 0)
theorem xsel_congr {l m : List Nat} {s t n : Nat} (hl : ∀ k, k < n → l.getD k 0 = m.getD k 0) (hs : ∀ k, k < n → s.testBit k = t.testBit k) : ∀ k, k ≤ n → xsel l s k = xsel m t k := by
  intro k
  induction k with
  | zero => intro _; rfl
  | succ k ih => intro hk; unfold xsel; rw [ih (by omega), hl k (by omega), hs k (by omega)]
theorem getD_snoc (l : List Nat) (g k : Nat) : (l ++ [g]).getD k 0 = if k < l.length then l.getD k 0 else if k = l.length then g else 0 := by
  simp only [List.getD_eq_getElem?_getD]
  by_cases h : k < l.length
  · rw [if_pos h, List.getElem?_append_left h]
  · rw [if_neg h, List.getElem?_append_right (by omega)]
    by_cases h2 : k = l.length
    · subst h2; simp
    · rw [if_neg h2, List.getElem?_eq_none (by simp; omega)]; rfl
theorem allX_get (l : List Nat) : ∀ s, s < 2 ^ l.length → (allX l)[s]? = some (xsel l s l.length) := by
  refine snoc_ind (P := fun l => ∀ s, s < 2 ^ l.length → (allX l)[s]? = some (xsel l s l.length)) (fun s hs => ?_) (fun l g ih s hs => ?_) l
  · have : s = 0 := by simpa using hs
    subst this; rfl
  · rw [List.length_append, List.length_singleton, Nat.pow_succ] at hs
    rw [allX_append, List.length_append, List.length_singleton]
    have hg : (l ++ [g]).getD l.length 0 = g := by rw [getD_snoc, if_neg (by omega), if_pos rfl]
    have hlow : ∀ k, k < l.length → (l ++ [g]).getD k 0 = l.getD k 0 := fun k hk => by rw [getD_snoc, if_pos hk]
    show _ = some (xsel (l ++ [g]) s l.length ^^^ (if s.testBit l.length then (l ++ [g]).getD l.length 0 else 0))
    rw [hg]
    by_cases h : s < 2 ^ l.length
    · rw [List.getElem?_append_left (by rw [allX_len]; exact h), ih s h, Nat.testBit_lt_two_pow h, if_neg (by simp), Nat.xor_zero]
      congr 1
      exact xsel_congr (n := l.length) (fun k hk => (hlow k hk).symm) (fun _ _ => rfl) _ (Nat.le_refl _)
    · obtain ⟨t, rfl⟩ : ∃ t, s = 2 ^ l.length + t := ⟨s - 2 ^ l.length, by omega⟩
      have ht : t < 2 ^ l.length := by omega
      rw [List.getElem?_append_right (by rw [allX_len]; omega), allX_len, Nat.add_sub_cancel_left, List.getElem?_map, ih t ht, Nat.testBit_two_pow_add_eq, Nat.testBit_lt_two_pow ht]
      show some (xsel l t l.length ^^^ g) = some (_ ^^^ g)
      congr 2
      exact xsel_congr (n := l.length) (fun k hk => (hlow k hk).symm) (fun k hk => (Nat.testBit_two_pow_add_gt hk t).symm) _ (Nat.le_refl _)
theorem xsel_lt {l : List Nat} (h : ∀ g ∈ l, g < 65536) (s : Nat) : ∀ k, xsel l s k < 65536 := by
  intro k
  induction k with
  | zero => exact (by decide : 0 < 65536)
  | succ k ih =>
    unfold xsel
    refine xor_lt16 ih ?_
    split
    · rw [List.getD_eq_getElem?_getD]
      cases hx : l[k]? with
      | none => exact (by decide : 0 < 65536)
      | some x => exact h x (List.mem_of_getElem? hx)
    · decide
theorem i64_and_nat1 (a : Nat) (ha : a < 9223372036854775808) : bits .and .i64 (a : Int) 1 = ((a % 2 : Nat) : Int) := by
  have h := i64_and_nat a 1 ha (by omega)
  rwa [Nat.and_one_is_mod] at h
theorem bitI (a K : Nat) (ha : a < 65536) : bits .and .i64 ((a : Int) / 2 ^ K) 1 = if a.testBit K then 1 else 0 := by
  have hle : a / 2 ^ K ≤ a := Nat.div_le_self _ _
  have h := i64_and_nat1 (a / 2 ^ K) (by omega)
  have e : ((a / 2 ^ K : Nat) : Int) = (a : Int) / 2 ^ K := by push_cast; rfl
  rw [e] at h
  rw [h, Nat.testBit_eq_decide_div_mod_eq]
  by_cases hm : a / 2 ^ K % 2 = 1
  · rw [hm]; simp
  · have : a / 2 ^ K % 2 = 0 := by omega
    rw [this]; simp
theorem u16_wrap0 : IntKind.u16.wrap 0 = 0 := wrap_u16 0 (by decide)
theorem u16_wrap1 : IntKind.u16.wrap 1 = 1 := wrap_u16 1 (by decide)
def AllPost (xs : List Nat) (w : World) (e : Ending) (w' : World) : Prop :=
  ∃ v, e = .returned v ∧ w'.ownsRow w.heap.size 29 1 v xs.length (cellsU xs) ∧ Below w.heap.size w w'
set_option maxRecDepth 100000 in
set_option maxHeartbeats 8000000 in
theorem ref_AllWords (m : Nat) (l : List Nat) (ao : Option Addr) (ca : Nat) (w : World) (hl : l.length = m) (hm : m ≤ 6) (hlt : ∀ x ∈ l, x < 65536) (hR : Hid (Reads w ao (cellsU l))) :
    Calls Try.prog 9 #[.slice ao m ca] w (AllPost (wordsL l) w) := by
  have HL := Lib.hid hl
  have HLT : Hid (∀ x ∈ l, x < 65536) := hlt
  obtain ⟨P, hP⟩ : ∃ P, 2 ^ m = P := ⟨_, rfl⟩
  have hPl : P ≤ 64 := by rw [← hP]; exact Nat.le_trans (Nat.pow_le_pow_right (by omega) hm) (by decide)
  have hP0 : 0 < P := by rw [← hP]; exact Nat.two_pow_pos _
  have eP : (2 : Int) ^ m = (P : Int) := by rw [← hP, Int.natCast_pow]; rfl
  have wP : IntKind.i64.wrap ((2 : Int) ^ m) = (P : Int) := by rw [eP]; exact IntWalk.i64_in _ (by omega)
  have HX : Hid (∀ s, s < P → (allX l)[s]? = some (xsel l s m)) := by
    intro s hs
    rw [← hl]
    exact allX_get l s (by rw [hl, hP]; exact hs)
  have HXN : Hid ((allX l).length = P) := by show _ = _; rw [allX_len, hl, hP]
  clear hl hlt hP
  go_enter Try.func9, Try.ntmps9
  go_wp2_with fail
  go_loopw [3, 11] (fun vo vs wr => ∃ (s : Nat), vs = .int .i64 s ∧ s ≤ P ∧ Hid (wr.ownsRow w.heap.size 29 1 vo s (cellsU ((allX l).take s))) ∧ Hid (Below w.heap.size w wr)) (fun _ vs _ => P - (intOf vs).toNat)
  case atStart => exact ⟨0, rfl, Nat.zero_le _, World.ownsRow_nil _ _ _ _, Below.refl _ _⟩
  case round =>
    obtain ⟨s, rfl, hs, hO, hB⟩ := hrel
    obtain ⟨wo, rfl⟩ : ∃ wo, wo = wr := ⟨_, rfl⟩
    by_cases hsP : s < P
    · have hR2 := Lib.hid (hR.out.below hB.out)
      have hsz : (s : Int) < (P : Int) := by omega
      have hXs := Lib.hid (app_take (HX.out s hsP))
      have HSZ : Hid (w.heap.size ≤ wo.heap.size) := hB.out.size
      go_wp2_with fail
      go_loopw [5, 16] (fun vx vk wr => ∃ (k x : Nat), vx = .int .u16 x ∧ vk = .int .i64 k ∧ k ≤ m ∧ x < 65536 ∧ Hid (xsel l s k = x) ∧ wo = wr) (fun _ vk _ => m - (intOf vk).toNat)
      case atStart => exact ⟨0, 0, rfl, rfl, Nat.zero_le _, by decide, rfl, rfl⟩
      case round =>
        obtain ⟨k, x, rfl, rfl, hk, hx, hS, rfl⟩ := hrel
        by_cases hkm : k < m
        · obtain ⟨y, hy⟩ : ∃ y, l[k]? = some y := ⟨l[k]'(by rw [HL.out]; exact hkm), List.getElem?_eq_getElem _⟩
          have hyl := HLT.out y (List.mem_of_getElem? hy)
          obtain ⟨b, o, hab, hc⟩ := hR2.out k (.int .u16 (y : Int)) (cellsU_get hy)
          have hgd : l.getD k 0 = y := by rw [List.getD_eq_getElem?_getD, hy]; rfl
          have hbit := bitI s k (by omega)
          have hkz : (k : Int) < (m : Int) := by omega
          have hS2 : xsel l s (k + 1) = x ^^^ (if s.testBit k then y else 0) := by
            show xsel l s k ^^^ _ = _
            rw [hS.out, hgd]
          subst hab
          cases ht : s.testBit k with
          | true =>
            rw [ht, if_pos rfl] at hbit hS2
            obtain ⟨z, hz⟩ : ∃ z, x ^^^ y = z := ⟨_, rfl⟩
            have exy : bits .xor .u16 (x : Int) (y : Int) = (z : Int) := by rw [u16_xor_nat x y hx hyl, hz]
            have hzl : z < 65536 := by rw [← hz]; exact xor_lt16 hx hyl
            have HS2 := Lib.hid (hS2.trans hz)
            have w1 := u16_wrap1
            have wy := wrap_u16 y hyl
            clear ht hS2 hz hy hgd
            go_wp2_with fail
            go_roundw
            case rel => exact ⟨k + 1, z, rfl, by go_num, by omega, hzl, HS2, by first | rfl | trivial⟩
            case measure => simp [intOf]; omega
          | false =>
            rw [ht, if_neg (by simp)] at hbit hS2
            have exy : bits .xor .u16 (x : Int) 0 = (x : Int) := by have := u16_xor_nat x 0 hx (by decide); rw [Nat.xor_zero] at this; exact this
            have HS2 : Hid (xsel l s (k + 1) = x) := by rw [hS2, Nat.xor_zero]; trivial
            have w0 := u16_wrap0
            clear ht hS2 hy hgd
            go_wp2_with fail
            go_roundw
            case rel => exact ⟨k + 1, x, rfl, by go_num, by omega, hx, HS2, by first | rfl | trivial⟩
            case measure => simp [intOf]; omega
        · obtain rfl : m = k := by omega
          go_wp2_with (at_builtin; go_must (refine app_one2 rfl (.tmp 31) (.tmp 33) 22 rfl w.heap.size 29 _ 1 2 Try.underlying22 u16Info u3 s (cellsU ((allX l).take s)) (by rfl) hO.out [.int .u16 (x : Int)] (by rfl) rfl (by intro u hu; simp at hu; subst hu; rfl) (by unfold maxLen; omega) (by omega) HSZ.out ?_); intro v1 w1 hl1 hg1 hb1 hk1)
          go_roundw
          case rel =>
            refine ⟨s + 1, by go_num, by omega, ?_, hB.out.trans hb1⟩
            show World.ownsRow _ _ _ _ _ _ _
            rw [hXs.out, hS.out, cellsU_app]
            exact hl1
          case measure => simp [intOf]; omega
    · obtain rfl : P = s := by omega
      have e1 : (allX l).take P = allX l := List.take_of_length_le (by rw [HXN.out]; exact Nat.le_refl _)
      rw [e1] at hO
      have hne : cellsU (allX l) ≠ [] := by
        intro h
        have := congrArg List.length h
        rw [cellsU_len, HXN.out] at this
        simp at this
        omega
      obtain ⟨g, cg, rfl, hO1⟩ := own_formK hO.out hne rfl
      have CS := Lib.hid (sort_u16 (allX l) P w.heap.size g cg wo (by omega) HXN.out hO1 hB.out.size)
      obtain ⟨D, hD⟩ : ∃ D, (wordsL l).length = D := ⟨_, rfl⟩
      have HD := Lib.hid hD
      have CP := Lib.hid (fun W h => compact_u16 ((srtU (allX l)).map fun x : Nat => (x : Int)) P w.heap.size g cg W h)
      rw [cmpL_cast, List.length_map, ← cellsU_cast, ← cellsU_cast, show (cmpN (srtU (allX l))).length = D from hD] at CP
      have hgb := Lib.hid (hO1.lt g rfl)
      unfold AllPost
      rw [hD]
      clear hO hO1 hne e1 hD
      go_wp2_with (first
        | (go_at_call 38; (refine CS.out.mono ?_); rintro e w5 ⟨rfl, hown5, hb5⟩)
        | (go_at_call 39; (refine (CP.out w5 hown5).mono ?_); rintro e w6 ⟨rfl, hown6, hg6⟩)
        | fail)
      go_ret
      have hb6 : Below w.heap.size w w5 := hB.out.trans hb5
      exact ⟨.slice (some ⟨g, 0, none⟩) D cg, rfl, by rw [HD.out]; exact hown6, hb6.grown hg6 hb6.size (fun q hq => by cases hq; exact hgb.out.1)⟩
/-! ### High -/
def highN (x : Nat) : Nat → Int
  | 0 => -1
  | k + 1 => if x.testBit k then (k : Int) else highN x k
theorem highN_none {x : Nat} : ∀ k, (∀ i, i < k → x.testBit i = false) → highN x k = -1 := by
  intro k
  induction k with
  | zero => intro _; rfl
  | succ k ih => intro h; unfold highN; rw [h k (by omega), if_neg (by simp)]; exact ih fun i hi => h i (by omega)
theorem highN_some {x j : Nat} (hj : x.testBit j = true) : ∀ k, j < k → (∀ i, j < i → i < k → x.testBit i = false) → highN x k = (j : Int) := by
  intro k
  induction k with
  | zero => intro h; omega
  | succ k ih =>
    intro hjk h
    unfold highN
    by_cases he : k = j
    · subst he; rw [hj, if_pos rfl]
    · rw [h k (by omega) (by omega), if_neg (by simp)]
      exact ih (by omega) fun i h1 h2 => h i h1 (by omega)
/-- What High answers. -/
def hiI (x : Nat) : Int := if x = 0 then -1 else (hiN x : Int)
theorem highN_16 {x : Nat} (hx : x < 65536) : highN x 16 = hiI x := by
  unfold hiI
  by_cases h0 : x = 0
  · rw [if_pos h0]; subst h0; exact highN_none 16 (fun i _ => Nat.zero_testBit i)
  · rw [if_neg h0]
    exact highN_some (hi_set (by omega) hx) 16 (hi_lt (by omega) hx) (fun i hi _ => hi_above (by omega) hx hi)
set_option maxRecDepth 100000 in
set_option maxHeartbeats 2000000 in
theorem ref_High (x : Nat) (w : World) (hx : x < 65536) :
    Calls Try.prog 40 #[.int .u16 x] w fun e w' => e = .returned (.int .i64 (hiI x)) ∧ w = w' := by
  rw [← highN_16 hx]
  go_enter Try.func40, Try.ntmps40
  go_wp2_with fail
  go_loopw [3, 5] (fun vo vk wr => ∃ (k : Nat) (z : Int), vo = .int .i64 z ∧ vk = .int .i64 k ∧ k ≤ 16 ∧ Hid (highN x k = z) ∧ w = wr) (fun _ vk _ => 16 - (intOf vk).toNat)
  case atStart => exact ⟨0, -1, rfl, rfl, by omega, rfl, rfl⟩
  case round =>
    obtain ⟨k, z, rfl, rfl, hk, hz, rfl⟩ := hrel
    by_cases hk1 : k < 16
    · have hbit := bitU x k hx
      have hn : highN x (k + 1) = if x.testBit k then (k : Int) else z := by rw [← hz.out]; rfl
      cases ht : x.testBit k with
      | true =>
        rw [ht, if_pos rfl] at hbit hn
        have HN := Lib.hid hn
        clear hn ht
        go_wp2_with fail
        go_roundw
        case rel => exact ⟨k + 1, k, rfl, by go_num, by omega, HN, by first | rfl | trivial⟩
        case measure => simp [intOf]; omega
      | false =>
        rw [ht, if_neg (by simp)] at hbit hn
        have HN := Lib.hid hn
        clear hn ht
        go_wp2_with fail
        go_roundw
        case rel => exact ⟨k + 1, z, rfl, by go_num, by omega, HN, by first | rfl | trivial⟩
        case measure => simp [intOf]; omega
    · have hk2 : k = 16 := by omega
      subst hk2
      have HZ := hz
      go_wp2_with fail
      go_ret
      rw [HZ.out]
      exact ⟨rfl, rfl⟩
end Go.Proofs.Ytmeffbooabionaa
