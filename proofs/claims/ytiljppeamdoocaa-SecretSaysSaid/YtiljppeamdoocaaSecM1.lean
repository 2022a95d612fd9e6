/- Points in slices: what is read; IndexFunc and ContainsFunc of package slices at points. -/
import Derived.Test.YtiljppeamdoocaaSecM0
import Derived.Test.YtiljppeamdoocaaRows
namespace Go.Proofs.Ytiljppeamdoocaa
open Go.RowKit

abbrev Pts := List (Int × Int)
def pV (z : Int × Int) : Value × Value := (.int .i64 z.1, .int .i64 z.2)
abbrev pA (z : Int × Int) : Value := .agg #[.int .i64 z.1, .int .i64 z.2]
theorem pair_cells {w : World} {ao : Option Addr} {zs : Pts} (h : Reads w ao (cells2 (zs.map pV))) {i : Nat} {z : Int × Int} (hz : zs[i]? = some z) :
    ∃ b o, ao = some ⟨b, o, none⟩ ∧ w.cell? ⟨b, o + i * 2, none⟩ = some (.int .i64 z.1) ∧ w.cell? ⟨b, o + i * 2 + 1, none⟩ = some (.int .i64 z.2) := by
  obtain ⟨h1, h2⟩ := cells2_get (zs.map pV) i (pV z) (by rw [List.getElem?_map, hz]; rfl)
  obtain ⟨b, o, ha, hc⟩ := h _ _ h1
  obtain ⟨b2, o2, ha2, hc2⟩ := h _ _ h2
  rw [ha] at ha2
  injection ha2 with ha2
  injection ha2 with e1 e2
  subst e1 e2
  exact ⟨b, o, ha, hc, by rw [Nat.add_assoc]; exact hc2⟩
theorem pair_take {w : World} {ao : Option Addr} {zs : Pts} (h : Reads w ao (cells2 (zs.map pV))) (m : Nat) : Reads w ao (cells2 ((zs.take m).map pV)) := by
  intro j u hu
  obtain ⟨k, a, hk, hd⟩ := cells2_get' _ j u hu
  have hk2 : (zs.map pV)[k]? = some a := by
    rw [List.map_take, List.getElem?_take] at hk
    split at hk
    · exact hk
    · simp at hk
  obtain ⟨h1, h2⟩ := cells2_get (zs.map pV) k a hk2
  rcases hd with ⟨rfl, rfl⟩ | ⟨rfl, rfl⟩
  · exact h _ _ h1
  · exact h _ _ h2
def idxP (p : Int × Int → Bool) (zs : Pts) : Int := match zs.findIdx? p with | some i => (i : Int) | none => -1
theorem idxP_none {p : Int × Int → Bool} {zs : Pts} (h : ∀ x ∈ zs, p x = false) : idxP p zs = -1 := by
  unfold idxP
  rw [List.findIdx?_eq_none_iff.2 (by simpa using h)]
theorem idxP_some {p : Int × Int → Bool} {zs : Pts} {k : Nat} {x : Int × Int} (hk : zs[k]? = some x) (hx : p x = true) (h : ∀ j y, j < k → zs[j]? = some y → p y = false) : idxP p zs = k := by
  have : zs.findIdx? p = some k := by
    rw [List.findIdx?_eq_some_iff_getElem]
    obtain ⟨hl, he⟩ := List.getElem?_eq_some_iff.1 hk
    refine ⟨hl, by rw [he]; exact hx, fun j hj => ?_⟩
    have := h j _ hj (List.getElem?_eq_getElem (by omega))
    simp [this]
  unfold idxP
  rw [this]
theorem idxP_nonneg (p : Int × Int → Bool) (zs : Pts) : decide (0 ≤ idxP p zs) = zs.any p := by
  unfold idxP
  cases h : zs.findIdx? p with
  | none =>
    have h2 := List.findIdx?_eq_none_iff.1 h
    have : zs.any p = false := by simpa using h2
    rw [this]; rfl
  | some i =>
    have h2 := List.findIdx?_eq_some_iff_getElem.1 h
    obtain ⟨hl, hp, _⟩ := h2
    have : zs.any p = true := List.any_eq_true.2 ⟨_, List.getElem_mem hl, hp⟩
    rw [this]; simp
set_option maxRecDepth 20000 in
set_option maxHeartbeats 400000 in
theorem indexFunc_ptc (fn : FuncId) (c : Value) (hfn : ∀ (x : Value) (W : World), (callFunc fn #[x, c]).run Try.prog W = .ok (.enter fn #[x, c]) W) (p : Int × Int → Bool) (zs : Pts) (len : Nat) (ao : Option Addr) (cap : Nat) (w : World) (hlen : zs.length = len) (hl : len ≤ 9223372036854775807) (hR : Hid (Reads w ao (cells2 (zs.map pV))))
    (hf : Hid (∀ x ∈ zs, ∀ W, Below w.heap.size w W → Calls Try.prog fn #[pA x, c] W fun e w' => e = .returned (.bool (p x)) ∧ Below W.heap.size W w')) :
    Calls Try.prog 105 #[.slice ao len cap, .func (.func fn) #[] #[c]] w fun e w' => e = .returned (.int .i64 (idxP p zs)) ∧ Below w.heap.size w w' := by
  have HL := Lib.hid hlen
  clear hlen
  go_enter Try.func105, Try.ntmps105
  go_wp2_with fail
  go_loopw [8] (fun vi wr => ∃ k : Nat, vi = .int .i64 k ∧ k ≤ len ∧ Hid (∀ j y, j < k → zs[j]? = some y → p y = false) ∧ Hid (Below w.heap.size w wr)) (fun vi _ => len - (intOf vi).toNat)
  case atStart => exact ⟨0, rfl, by omega, by intro j y hj; omega, Below.refl _ _⟩
  case round =>
    obtain ⟨k, rfl, hk, hno, hb⟩ := hrel
    by_cases hkl : k < len
    · obtain ⟨x, hx⟩ : ∃ x, zs[k]? = some x := ⟨zs[k]'(by rw [HL.out]; exact hkl), List.getElem?_eq_getElem _⟩
      obtain ⟨b, o, rfl, c1, c2⟩ := pair_cells (hR.out.below hb.out) hx
      have HX := Lib.hid hx
      have hcall := Lib.hid (hf.out x (List.mem_of_getElem? hx) wr hb.out)
      clear hx
      cases hp : p x with
      | true =>
        have HP := Lib.hid hp
        rw [hp] at hcall
        clear hp
        go_wp2_with fail
        refine hcall.out.mono ?_
        rintro e w' ⟨rfl, hb2⟩
        go_wp2
        go_ret
        exact ⟨ret_int (idxP_some HX.out HP.out hno.out).symm, hb.out.trans (hb2.mono hb.out.size)⟩
      | false =>
        have HP := Lib.hid hp
        rw [hp] at hcall
        clear hp
        go_wp2_with fail
        refine hcall.out.mono ?_
        rintro e w' ⟨rfl, hb2⟩
        have HB2 := Lib.hid (hb.out.trans (hb2.mono hb.out.size))
        clear hb2
        go_wp2
        go_roundw
        case rel => exact ⟨k + 1, by go_num, by omega, by
          intro j y hj hy
          by_cases he : j = k
          · subst he; rw [HX.out] at hy; cases hy; exact HP.out
          · exact hno.out j y (by omega) hy, HB2⟩
        case measure => simp [intOf]; omega
    · obtain rfl : k = len := by omega
      go_wp2
      go_ret
      refine ⟨ret_int (idxP_none fun x hx => ?_).symm, hb.out⟩
      obtain ⟨j, hj⟩ := List.getElem?_of_mem hx
      have := (List.getElem?_eq_some_iff.1 hj).1
      exact hno.out j x (by have := HL.out; omega) hj
set_option maxHeartbeats 400000 in
theorem containsFunc_ptc (fn : FuncId) (c : Value) (hfn : ∀ (x : Value) (W : World), (callFunc fn #[x, c]).run Try.prog W = .ok (.enter fn #[x, c]) W) (p : Int × Int → Bool) (zs : Pts) (len : Nat) (ao : Option Addr) (cap : Nat) (w : World) (hlen : zs.length = len) (hl : len ≤ 9223372036854775807) (hR : Hid (Reads w ao (cells2 (zs.map pV))))
    (hf : Hid (∀ x ∈ zs, ∀ W, Below w.heap.size w W → Calls Try.prog fn #[pA x, c] W fun e w' => e = .returned (.bool (p x)) ∧ Below W.heap.size W w')) :
    Calls Try.prog 51 #[.slice ao len cap, .func (.func fn) #[] #[c]] w fun e w' => e = .returned (.bool (zs.any p)) ∧ Below w.heap.size w w' := by
  go_enter Try.func51, Try.ntmps51
  go_wp2_with (go_at_call 105; refine (indexFunc_ptc fn c hfn p zs len ao cap w hlen hl hR hf).mono ?_; rintro e w' ⟨rfl, hb⟩)
  go_ret
  exact ⟨ret_bool (idxP_nonneg p zs), hb⟩
set_option maxRecDepth 20000 in
set_option maxHeartbeats 400000 in
theorem indexFunc_pt (fn : FuncId) (hfn : ∀ (x : Value) (W : World), (callFunc fn #[x]).run Try.prog W = .ok (.enter fn #[x]) W) (p : Int × Int → Bool) (zs : Pts) (len : Nat) (ao : Option Addr) (cap : Nat) (w : World) (hlen : zs.length = len) (hl : len ≤ 9223372036854775807) (hR : Hid (Reads w ao (cells2 (zs.map pV))))
    (hf : Hid (∀ x ∈ zs, ∀ W, Below w.heap.size w W → Calls Try.prog fn #[pA x] W fun e w' => e = .returned (.bool (p x)) ∧ Below W.heap.size W w')) :
    Calls Try.prog 105 #[.slice ao len cap, .func (.func fn) #[] #[]] w fun e w' => e = .returned (.int .i64 (idxP p zs)) ∧ Below w.heap.size w w' := by
  have HL := Lib.hid hlen
  clear hlen
  go_enter Try.func105, Try.ntmps105
  go_wp2_with fail
  go_loopw [8] (fun vi wr => ∃ k : Nat, vi = .int .i64 k ∧ k ≤ len ∧ Hid (∀ j y, j < k → zs[j]? = some y → p y = false) ∧ Hid (Below w.heap.size w wr)) (fun vi _ => len - (intOf vi).toNat)
  case atStart => exact ⟨0, rfl, by omega, by intro j y hj; omega, Below.refl _ _⟩
  case round =>
    obtain ⟨k, rfl, hk, hno, hb⟩ := hrel
    by_cases hkl : k < len
    · obtain ⟨x, hx⟩ : ∃ x, zs[k]? = some x := ⟨zs[k]'(by rw [HL.out]; exact hkl), List.getElem?_eq_getElem _⟩
      obtain ⟨b, o, rfl, c1, c2⟩ := pair_cells (hR.out.below hb.out) hx
      have HX := Lib.hid hx
      have hcall := Lib.hid (hf.out x (List.mem_of_getElem? hx) wr hb.out)
      clear hx
      cases hp : p x with
      | true =>
        have HP := Lib.hid hp
        rw [hp] at hcall
        clear hp
        go_wp2_with fail
        refine hcall.out.mono ?_
        rintro e w' ⟨rfl, hb2⟩
        go_wp2
        go_ret
        exact ⟨ret_int (idxP_some HX.out HP.out hno.out).symm, hb.out.trans (hb2.mono hb.out.size)⟩
      | false =>
        have HP := Lib.hid hp
        rw [hp] at hcall
        clear hp
        go_wp2_with fail
        refine hcall.out.mono ?_
        rintro e w' ⟨rfl, hb2⟩
        have HB2 := Lib.hid (hb.out.trans (hb2.mono hb.out.size))
        clear hb2
        go_wp2
        go_roundw
        case rel => exact ⟨k + 1, by go_num, by omega, by
          intro j y hj hy
          by_cases he : j = k
          · subst he; rw [HX.out] at hy; cases hy; exact HP.out
          · exact hno.out j y (by omega) hy, HB2⟩
        case measure => simp [intOf]; omega
    · obtain rfl : k = len := by omega
      go_wp2
      go_ret
      refine ⟨ret_int (idxP_none fun x hx => ?_).symm, hb.out⟩
      obtain ⟨j, hj⟩ := List.getElem?_of_mem hx
      have := (List.getElem?_eq_some_iff.1 hj).1
      exact hno.out j x (by have := HL.out; omega) hj
set_option maxHeartbeats 400000 in
theorem containsFunc_pt (fn : FuncId) (hfn : ∀ (x : Value) (W : World), (callFunc fn #[x]).run Try.prog W = .ok (.enter fn #[x]) W) (p : Int × Int → Bool) (zs : Pts) (len : Nat) (ao : Option Addr) (cap : Nat) (w : World) (hlen : zs.length = len) (hl : len ≤ 9223372036854775807) (hR : Hid (Reads w ao (cells2 (zs.map pV))))
    (hf : Hid (∀ x ∈ zs, ∀ W, Below w.heap.size w W → Calls Try.prog fn #[pA x] W fun e w' => e = .returned (.bool (p x)) ∧ Below W.heap.size W w')) :
    Calls Try.prog 51 #[.slice ao len cap, .func (.func fn) #[] #[]] w fun e w' => e = .returned (.bool (zs.any p)) ∧ Below w.heap.size w w' := by
  go_enter Try.func51, Try.ntmps51
  go_wp2_with (go_at_call 105; refine (indexFunc_pt fn hfn p zs len ao cap w hlen hl hR hf).mono ?_; rintro e w' ⟨rfl, hb⟩)
  go_ret
  exact ⟨ret_bool (idxP_nonneg p zs), hb⟩
end Go.Proofs.Ytiljppeamdoocaa
namespace Go.Proofs.Ytiljppeamdoocaa

def IsPr (n : Nat) : Prop := 2 ≤ n ∧ ∀ d, 2 ≤ d → d < n → ¬ d ∣ n
noncomputable def prB (n : Nat) : Bool := @decide (IsPr n) (Classical.propDecidable _)
theorem prB_iff {n : Nat} : prB n = true ↔ IsPr n := by unfold prB; exact @decide_eq_true_iff _ (Classical.propDecidable _)
theorem prB_iff' {n : Nat} : prB n = false ↔ ¬ IsPr n := by unfold prB; exact @decide_eq_false_iff_not _ (Classical.propDecidable _)

theorem prB_true {n : Nat} (h : IsPr n) : prB n = true := prB_iff.2 h
theorem prB_false {n : Nat} (h : ¬ IsPr n) : prB n = false := prB_iff'.2 h
/-- No number from 2 on and below d divides n. -/
def NoDiv (n d : Nat) : Prop := ∀ e, 2 ≤ e → e < d → ¬ e ∣ n
theorem NoDiv.start (n : Nat) : NoDiv n 2 := fun e h1 h2 => by omega
theorem NoDiv.next {n d : Nat} (h : NoDiv n d) (hd : ¬ d ∣ n) : NoDiv n (d + 1) := by
  intro e h1 h2
  by_cases he : e = d
  · subst he; exact hd
  · exact h e h1 (by omega)
theorem NoDiv.prime {n d : Nat} (h : NoDiv n d) (hn : 2 ≤ n) (hd : n < d * d) : IsPr n := by
  refine ⟨hn, fun e h1 h2 hdv => ?_⟩
  obtain ⟨c, hc⟩ := hdv
  have hc2 : 2 ≤ c := by
    rcases Nat.lt_or_ge c 2 with h3 | h3
    · have : c = 0 ∨ c = 1 := by omega
      rcases this with h4 | h4
      · subst h4; omega
      · subst h4; omega
    · exact h3
  by_cases hed : e < d
  · exact h e h1 hed ⟨c, hc⟩
  · by_cases hcd : c < d
    · exact h c hc2 hcd ⟨e, by rw [hc, Nat.mul_comm]⟩
    · have : d * d ≤ e * c := Nat.mul_le_mul (by omega) (by omega)
      omega
theorem NoDiv.notPrime {n d : Nat} (hd : 2 ≤ d) (h2 : d * d ≤ n) (hdv : d ∣ n) : ¬ IsPr n := by
  intro h
  refine h.2 d hd ?_ hdv
  have : d * 2 ≤ d * d := Nat.mul_le_mul_left d hd
  omega
/-- A divisor below which there is none is prime. -/
theorem NoDiv.divisor {n d : Nat} (h : NoDiv n d) (hd : 2 ≤ d) (hdv : d ∣ n) : IsPr d :=
  ⟨hd, fun e h1 h2 h3 => h e h1 h2 (Nat.dvd_trans h3 hdv)⟩
theorem NoDiv.of_dvd {n m d : Nat} (h : NoDiv n d) (hm : m ∣ n) : NoDiv m d := fun e h1 h2 h3 => h e h1 h2 (Nat.dvd_trans h3 hm)
theorem NoDiv.ge {n d : Nat} (h : NoDiv n d) (hn : 2 ≤ n) : d ≤ n := by
  rcases Nat.lt_or_ge n d with h1 | h1
  · exact absurd ⟨1, by simp⟩ (h n hn h1)
  · exact h1
theorem isPr_small (n : Nat) (h : n < 4) : IsPr n ↔ n = 2 ∨ n = 3 := by
  constructor
  · intro h1; have := h1.1; omega
  · rintro (h1 | h1)
    · subst h1; exact ⟨by omega, fun d h2 h3 => by omega⟩
    · subst h1
      refine ⟨by omega, fun d h2 h3 h4 => ?_⟩
      obtain rfl : d = 2 := by omega
      omega
/-- Numbers that neither 2 nor 3 divides: six by six. -/
theorem NoDiv.six {n d : Nat} (h : NoDiv n d) (h2 : ¬ 2 ∣ n) (h3 : ¬ 3 ∣ n) (hd : d % 6 = 5) (hd1 : ¬ d ∣ n) (hd2 : ¬ (d + 2) ∣ n) : NoDiv n (d + 6) := by
  have e2 : ∀ e, e % 2 = 0 → ¬ e ∣ n := fun e he hdv => h2 (Nat.dvd_trans (by omega) hdv)
  have e3 : ∀ e, e % 3 = 0 → ¬ e ∣ n := fun e he hdv => h3 (Nat.dvd_trans (by omega) hdv)
  have s1 := h.next hd1
  have s2 := s1.next (e2 (d + 1) (by omega))
  have s3 := s2.next hd2
  have s4 := s3.next (e2 (d + 3) (by omega))
  have s5 := s4.next (e3 (d + 4) (by omega))
  exact s5.next (e2 (d + 5) (by omega))
theorem NoDiv.five {n : Nat} (h2 : ¬ 2 ∣ n) (h3 : ¬ 3 ∣ n) : NoDiv n 5 := by
  intro e h4 h5 h6
  have : e = 2 ∨ e = 3 ∨ e = 4 := by omega
  rcases this with h | h | h
  · subst h; exact h2 h6
  · subst h; exact h3 h6
  · subst h; exact h2 (Nat.dvd_trans (by omega) h6)
theorem notPr_of_dvd {n d : Nat} (h1 : 2 ≤ d) (h2 : d < n) (h3 : d ∣ n) : ¬ IsPr n := fun h => h.2 d h1 h2 h3
end Go.Proofs.Ytiljppeamdoocaa
namespace Go.Proofs.Ytiljppeamdoocaa
open Go.RowKit

theorem sq_int (d : Nat) (M : Nat) (h : d ≤ M) : 0 ≤ (d : Int) * d ∧ (d : Int) * d ≤ (M : Int) * M := by
  have h1 : d * d ≤ M * M := Nat.mul_le_mul h h
  have h2 : ((d * d : Nat) : Int) = (d : Int) * d := by push_cast; rfl
  have h3 : ((M * M : Nat) : Int) = (M : Int) * M := by push_cast; rfl
  omega
theorem dvd_beq (n d : Nat) (h : d ∣ n) : ((n : Int) % (d : Int) == 0) = true := by
  have : ((n % d : Nat) : Int) = 0 := by rw [Nat.mod_eq_zero_of_dvd h]; rfl
  rw [Int.natCast_emod] at this
  simp [this]
theorem ndvd_beq (n d : Nat) (h : ¬ d ∣ n) : ((n : Int) % (d : Int) == 0) = false := by
  have h1 : n % d ≠ 0 := fun h2 => h (Nat.dvd_of_mod_eq_zero h2)
  have : ((n : Int) % (d : Int)) = ((n % d : Nat) : Int) := rfl
  rw [this]
  simp; omega
theorem le_sq {n d : Nat} (h : (d : Int) * d ≤ n) : d * d ≤ n := by
  have h2 : ((d * d : Nat) : Int) = (d : Int) * d := by push_cast; rfl
  omega
theorem lt_sq {n d : Nat} (h : ¬ (d : Int) * d ≤ n) : n < d * d := by
  have h2 : ((d * d : Nat) : Int) = (d : Int) * d := by push_cast; rfl
  omega

set_option maxHeartbeats 400000 in
theorem prime_is (n : Nat) (w : World) (hn : n ≤ 1000000) :
    Calls Try.prog 130 #[.int .i64 n] w fun e w' => e = .returned (.bool (prB n)) ∧ w = w' := by
  go_enter Try.func130, Try.ntmps130
  go_wp2_with fail
  go_loop [3] (fun vd => ∃ d : Nat, vd = .int .i64 d ∧ 2 ≤ d ∧ d ≤ 1001 ∧ Hid (NoDiv n d)) (fun vd => 1001 - (intOf vd).toNat)
  case atStart => exact ⟨2, rfl, by omega, by omega, NoDiv.start n⟩
  case round =>
    obtain ⟨d, rfl, hd, hd2, hno⟩ := hrel
    obtain ⟨p0, p1⟩ := sq_int d 1001 hd2
    by_cases hsq : (d : Int) * d ≤ n
    · have hd3 : d ≤ 1000 := by
        rcases Nat.lt_or_ge 1000 d with h | h
        · have := Nat.mul_le_mul (show 1001 ≤ d from h) (show 1001 ≤ d from h); have := le_sq hsq; omega
        · exact h
      by_cases hdv : d ∣ n
      · have ht := dvd_beq n d hdv
        have hR := Lib.hid (prB_false (NoDiv.notPrime hd (le_sq hsq) hdv))
        clear hdv
        go_wp2
        go_ret
        exact ⟨ret_bool hR.out.symm, rfl⟩
      · have ht := ndvd_beq n d hdv
        have hN := Lib.hid (hno.out.next hdv)
        clear hdv
        go_wp2
        go_round
        case rel => exact ⟨d + 1, by go_num, by omega, by omega, hN⟩
        case measure => simp [intOf]; omega
    · have hlt := lt_sq hsq
      have hR : Hid (decide ((1 : Int) < n) = prB n) := by
        show _ = _
        by_cases h1 : 2 ≤ n
        · rw [prB_true (hno.out.prime h1 hlt)]; simp; omega
        · rw [prB_false (fun h => h1 h.1)]; simp; omega
      clear hlt
      go_wp2
      go_ret
      exact ⟨ret_bool hR.out, rfl⟩

set_option maxHeartbeats 400000 in
theorem prime_Is (n : Nat) (w : World) (hn : n ≤ 1000000) :
    Calls Try.prog 99 #[.int .i64 n] w fun e w' => e = .returned (.tuple #[.bool (prB n), .int .i64 0]) ∧ w = w' := by
  have h1 : decide ((1000000 : Int) < n) = false := by simp; omega
  go_enter Try.func99, Try.ntmps99
  go_wp2_with (go_at_call 130; refine (prime_is n _ hn).mono ?_; rintro e w' ⟨rfl, rfl⟩)
  go_ret2
  exact ⟨rfl, rfl⟩
set_option maxHeartbeats 400000 in
theorem prime_Is_bad (n : Int) (w : World) (hn : n < 0 ∨ 1000000 < n) :
    Calls Try.prog 99 #[.int .i64 n] w fun e w' => e = .returned (.tuple #[.bool false, .int .i64 1]) ∧ w = w' := by
  by_cases h : n < 0
  · go_enter Try.func99, Try.ntmps99
    go_wp2_with fail
    go_ret2
    exact ⟨rfl, rfl⟩
  · have h1 : decide (1000000 < n) = true := by simp; omega
    go_enter Try.func99, Try.ntmps99
    go_wp2_with fail
    go_ret2
    exact ⟨rfl, rfl⟩

/-- The first prime from n on, up to a million. -/
def IsNext (n p : Nat) : Prop := n ≤ p ∧ p ≤ 1000000 ∧ IsPr p ∧ ∀ q, n ≤ q → q < p → ¬ IsPr q
def NoNext (n : Nat) : Prop := ∀ q, n ≤ q → q ≤ 1000000 → ¬ IsPr q
noncomputable def nextI (n : Nat) : Int × Int := @ite _ (∃ p, IsNext n p) (Classical.propDecidable _) (((Classical.epsilon (IsNext n) : Nat) : Int), 0) (0, 4)
theorem IsNext.uniq {n p q : Nat} (h : IsNext n p) (k : IsNext n q) : p = q := by
  rcases Nat.lt_trichotomy p q with h1 | h1 | h1
  · exact absurd h.2.2.1 (k.2.2.2 p h.1 h1)
  · exact h1
  · exact absurd k.2.2.1 (h.2.2.2 q k.1 h1)
theorem nextI_some {n p : Nat} (h : IsNext n p) : nextI n = ((p : Int), 0) := by
  unfold nextI
  rw [if_pos ⟨p, h⟩, (Classical.epsilon_spec (p := IsNext n) ⟨p, h⟩).uniq h]
theorem nextI_none {n : Nat} (h : NoNext n) : nextI n = (0, 4) := by
  unfold nextI
  rw [if_neg]
  rintro ⟨p, h1, h2, h3, _⟩
  exact h p h1 h2 h3

set_option maxHeartbeats 1000000 in
theorem ref_Prime (n : Nat) (w : World) (hn : n ≤ 1000000) :
    Calls Try.prog 16 #[.int .i64 n] w fun e w' => e = .returned (.bool (prB n)) ∧ w = w' := by
  by_cases h4 : n < 4
  · have hR : Hid (((n : Int) == 2 || (n : Int) == 3) = prB n) := by
      show _ = _
      have h5 := isPr_small n h4
      by_cases h6 : IsPr n
      · rw [prB_true h6]; rcases h5.1 h6 with h7 | h7 <;> subst h7 <;> rfl
      · rw [prB_false h6]
        have : n ≠ 2 ∧ n ≠ 3 := by constructor <;> intro h7 <;> exact h6 (h5.2 (by omega))
        simp; omega
    by_cases h2 : n = 2
    · subst h2
      go_enter Try.func16, Try.ntmps16
      go_wp2_with fail
      go_ret
      exact ⟨by rw [← hR.out]; rfl, rfl⟩
    · have hz : ((n : Int) == 2) = false := by simp; omega
      go_enter Try.func16, Try.ntmps16
      go_wp2_with fail
      go_ret
      exact ⟨by rw [← hR.out, hz]; rfl, rfl⟩
  · by_cases h2 : 2 ∣ n
    · have t2 : ((n : Int) % 2 == 0) = true := dvd_beq n 2 h2
      have hR := Lib.hid (prB_false (notPr_of_dvd (by omega) (by omega) h2))
      clear h2
      go_enter Try.func16, Try.ntmps16
      go_wp2_with fail
      go_ret
      exact ⟨ret_bool hR.out.symm, rfl⟩
    · have t2 : ((n : Int) % 2 == 0) = false := ndvd_beq n 2 h2
      by_cases h3 : 3 ∣ n
      · have t3 : ((n : Int) % 3 == 0) = true := dvd_beq n 3 h3
        have hR := Lib.hid (prB_false (notPr_of_dvd (by omega) (by omega) h3))
        clear h2 h3
        go_enter Try.func16, Try.ntmps16
        go_wp2_with fail
        go_ret
        exact ⟨ret_bool hR.out.symm, rfl⟩
      · have t3 : ((n : Int) % 3 == 0) = false := ndvd_beq n 3 h3
        have H2 := Lib.hid h2
        have H3 := Lib.hid h3
        clear h2 h3
        go_enter Try.func16, Try.ntmps16
        go_wp2_with fail
        go_loop [3] (fun vd => ∃ d : Nat, vd = .int .i64 d ∧ 5 ≤ d ∧ d ≤ 1006 ∧ Hid (d % 6 = 5) ∧ Hid (NoDiv n d)) (fun vd => 1006 - (intOf vd).toNat)
        case atStart => exact ⟨5, rfl, by omega, by omega, by show _ = _; rfl, NoDiv.five H2.out H3.out⟩
        case round =>
          obtain ⟨d, rfl, hd, hd2, hmod, hno⟩ := hrel
          obtain ⟨p0, p1⟩ := sq_int d 1006 hd2
          by_cases hsq : (d : Int) * d ≤ n
          · have hd3 : d ≤ 1000 := by
              rcases Nat.lt_or_ge 1000 d with h | h
              · have := Nat.mul_le_mul (show 1001 ≤ d from h) (show 1001 ≤ d from h); have := le_sq hsq; omega
              · exact h
            have hlt : d * 5 ≤ n := Nat.le_trans (Nat.mul_le_mul_left d hd) (le_sq hsq)
            by_cases hdv : d ∣ n
            · have ht := dvd_beq n d hdv
              have hR := Lib.hid (prB_false (NoDiv.notPrime (by omega) (le_sq hsq) hdv))
              clear hdv hlt
              go_wp2_with fail
              go_ret
              exact ⟨ret_bool hR.out.symm, rfl⟩
            · have ht := ndvd_beq n d hdv
              by_cases hdv2 : (d + 2) ∣ n
              · have ht2 : ((n : Int) % ((d : Int) + 2) == 0) = true := dvd_beq n (d + 2) hdv2
                have hR := Lib.hid (prB_false (notPr_of_dvd (by omega) (by omega) hdv2))
                clear hdv hdv2 hlt
                go_wp2_with fail
                go_ret
                exact ⟨ret_bool hR.out.symm, rfl⟩
              · have ht2 : ((n : Int) % ((d : Int) + 2) == 0) = false := ndvd_beq n (d + 2) hdv2
                have hN := Lib.hid (hno.out.six H2.out H3.out hmod.out hdv hdv2)
                clear hdv hdv2 hlt
                go_wp2_with fail
                go_round
                case rel => exact ⟨d + 6, by go_num, by omega, by omega, by have := hmod.out; show _ = _; omega, hN⟩
                case measure => simp [intOf]; omega
          · have hR := Lib.hid (prB_true (hno.out.prime (by omega) (lt_sq hsq)))
            go_wp2_with fail
            go_ret
            exact ⟨ret_bool hR.out.symm, rfl⟩
end Go.Proofs.Ytiljppeamdoocaa
namespace Go.Proofs.Ytiljppeamdoocaa
open Go.RowKit

set_option maxRecDepth 20000 in
set_option maxHeartbeats 400000 in
theorem indexFunc_cap (fn : FuncId) (c : Value) (hfn : ∀ (x : Value) (W : World), (callFunc fn #[x, c]).run Try.prog W = .ok (.enter fn #[x, c]) W) (p : Int → Bool) (zs : List Int) (ao : Option Addr) (cap : Nat) (w : World) (hl : zs.length ≤ 9223372036854775807) (hR : Hid (Reads w ao (zs.map (Value.int .i64))))
    (hf : Hid (∀ x ∈ zs, ∀ n, Calls Try.prog fn #[.int .i64 x, c] (w.drewN n) fun e w' => e = .returned (.bool (p x)) ∧ ∃ m, w' = (w.drewN n).drewN m)) :
    Calls Try.prog 106 #[.slice ao zs.length cap, .func (.func fn) #[] #[c]] w fun e w' => e = .returned (.int .i64 (idxI p zs)) ∧ ∃ n, w' = w.drewN n := by
  obtain ⟨len, hlen⟩ : ∃ n, zs.length = n := ⟨_, rfl⟩
  rw [hlen] at hl ⊢
  have HL := Lib.hid hlen
  clear hlen
  go_enter Try.func106, Try.ntmps106
  go_wp2_with fail
  go_loopw [8] (fun vi wr => ∃ k : Nat, vi = .int .i64 k ∧ k ≤ len ∧ Hid (∀ j y, j < k → zs[j]? = some y → p y = false) ∧ ∃ n, wr = w.drewN n) (fun vi _ => len - (intOf vi).toNat)
  case atStart => exact ⟨0, rfl, by omega, by intro j y hj; omega, 0, rfl⟩
  case round =>
    obtain ⟨k, rfl, hk, hno, n, rfl⟩ := hrel
    by_cases hkl : k < len
    · obtain ⟨x, hx⟩ : ∃ x, zs[k]? = some x := ⟨zs[k]'(by rw [HL.out]; exact hkl), List.getElem?_eq_getElem _⟩
      obtain ⟨b, o, rfl, hc⟩ := hR.out k (.int .i64 x) (by simp [hx])
      have HX := Lib.hid hx
      clear hx
      have hcall := Lib.hid (hf.out x (List.mem_of_getElem? HX.out))
      cases hp : p x with
      | true =>
        have HP := Lib.hid hp
        clear hp
        go_wp2_with fail
        refine (hcall.out n).mono ?_
        rw [HP.out]
        rintro e w' ⟨rfl, m, rfl⟩
        go_wp2
        go_ret
        exact ⟨ret_int (idxI_some HX.out HP.out hno.out).symm, _, rfl⟩
      | false =>
        have HP := Lib.hid hp
        clear hp
        go_wp2_with fail
        refine (hcall.out n).mono ?_
        rw [HP.out]
        rintro e w' ⟨rfl, m, rfl⟩
        go_wp2
        go_roundw
        case rel => exact ⟨k + 1, by go_num, by omega, by
          intro j y hj hy
          by_cases he : j = k
          · subst he; rw [HX.out] at hy; cases hy; exact HP.out
          · exact hno.out j y (by omega) hy, _, rfl⟩
        case measure => simp [intOf]; omega
    · obtain rfl : k = len := by omega
      go_wp2
      go_ret
      refine ⟨ret_int (idxI_none fun x hx => ?_).symm, _, rfl⟩
      obtain ⟨j, hj⟩ := List.getElem?_of_mem hx
      have := (List.getElem?_eq_some_iff.1 hj).1
      exact hno.out j x (by have := HL.out; omega) hj
set_option maxHeartbeats 400000 in
theorem containsFunc_cap (fn : FuncId) (c : Value) (hfn : ∀ (x : Value) (W : World), (callFunc fn #[x, c]).run Try.prog W = .ok (.enter fn #[x, c]) W) (p : Int → Bool) (zs : List Int) (ao : Option Addr) (cap : Nat) (w : World) (hl : zs.length ≤ 9223372036854775807) (hR : Hid (Reads w ao (zs.map (Value.int .i64))))
    (hf : Hid (∀ x ∈ zs, ∀ n, Calls Try.prog fn #[.int .i64 x, c] (w.drewN n) fun e w' => e = .returned (.bool (p x)) ∧ ∃ m, w' = (w.drewN n).drewN m)) :
    Calls Try.prog 53 #[.slice ao zs.length cap, .func (.func fn) #[] #[c]] w fun e w' => e = .returned (.bool (zs.any p)) ∧ ∃ n, w' = w.drewN n := by
  go_enter Try.func53, Try.ntmps53
  go_wp2_with (go_at_call 106; refine (indexFunc_cap fn c hfn p zs ao cap w hl hR hf).mono ?_; rintro e w' ⟨rfl, n, rfl⟩)
  go_ret
  exact ⟨ret_bool (idxI_nonneg p zs), _, rfl⟩
end Go.Proofs.Ytiljppeamdoocaa
namespace Go.Proofs.Ytiljppeamdoocaa

def co (f : List Int) (k : Nat) : Int := f[k]?.getD 0
/-- The length without the zeros at the end. -/
def tlen : List Int → Nat
  | [] => 0
  | x :: xs => if tlen xs = 0 then (if x = 0 then 0 else 1) else tlen xs + 1
def trim (f : List Int) : List Int := f.take (tlen f)
def Trm (f : List Int) : Prop := f.length = 0 ∨ co f (f.length - 1) ≠ 0
def InF (p : Int) (f : List Int) : Prop := ∀ x, x ∈ f → 0 ≤ x ∧ x < p

theorem co_nil (k : Nat) : co [] k = 0 := by simp [co]
theorem co_cons_zero (x : Int) (f : List Int) : co (x :: f) 0 = x := by simp [co]
theorem co_cons_succ (x : Int) (f : List Int) (k : Nat) : co (x :: f) (k + 1) = co f k := by simp [co]
theorem co_out {f : List Int} {k : Nat} (h : f.length ≤ k) : co f k = 0 := by unfold co; rw [List.getElem?_eq_none h]; rfl
theorem co_get {f : List Int} {k : Nat} {x : Int} (h : f[k]? = some x) : co f k = x := by unfold co; rw [h]; rfl
theorem co_some {f : List Int} {k : Nat} (h : k < f.length) : f[k]? = some (co f k) := by unfold co; rw [List.getElem?_eq_getElem h]; rfl
theorem tlen_le : ∀ f : List Int, tlen f ≤ f.length
  | [] => Nat.le_refl _
  | x :: xs => by
    have := tlen_le xs
    unfold tlen
    simp only [List.length_cons]
    split
    · split <;> omega
    · omega
theorem co_ge : ∀ (f : List Int) (k : Nat), tlen f ≤ k → co f k = 0
  | [], k, _ => co_nil k
  | x :: xs, 0, h => by
    rw [co_cons_zero]
    unfold tlen at h
    split at h
    · split at h
      · assumption
      · omega
    · omega
  | x :: xs, k + 1, h => by
    rw [co_cons_succ]
    refine co_ge xs k ?_
    unfold tlen at h
    split at h
    · omega
    · omega
theorem co_last : ∀ f : List Int, 0 < tlen f → co f (tlen f - 1) ≠ 0
  | [], h => by simp [tlen] at h
  | x :: xs, h => by
    unfold tlen at h ⊢
    split at h
    · rename_i h0
      split at h
      · omega
      · rename_i hx
        rw [if_pos h0, if_neg hx, Nat.sub_self, co_cons_zero]
        exact hx
    · rename_i h0
      rw [if_neg h0]
      obtain ⟨m, hm⟩ : ∃ m, tlen xs = m + 1 := ⟨tlen xs - 1, by omega⟩
      have h2 := co_last xs (by omega)
      rw [hm] at h2 ⊢
      simp only [Nat.add_sub_cancel] at h2 ⊢
      rw [co_cons_succ]
      exact h2
theorem tlen_le_of {f : List Int} {n : Nat} (h : ∀ k, n ≤ k → co f k = 0) : tlen f ≤ n := by
  rcases Nat.lt_or_ge n (tlen f) with hl | hl
  · exact absurd (h (tlen f - 1) (by omega)) (co_last f (by omega))
  · exact hl
theorem tlen_gt_of {f : List Int} {k : Nat} (h : co f k ≠ 0) : k < tlen f := by
  rcases Nat.lt_or_ge k (tlen f) with hl | hl
  · exact hl
  · exact absurd (co_ge f k hl) h
theorem co_take (f : List Int) (n k : Nat) : co (f.take n) k = if k < n then co f k else 0 := by
  unfold co
  rw [List.getElem?_take]
  split <;> rfl
theorem co_trim (f : List Int) (k : Nat) : co (trim f) k = co f k := by
  unfold trim
  rw [co_take]
  split
  · rfl
  · rename_i h
    exact (co_ge f k (by omega)).symm
theorem length_trim (f : List Int) : (trim f).length = tlen f := by
  unfold trim
  rw [List.length_take]
  exact Nat.min_eq_left (tlen_le f)
theorem trm_trim (f : List Int) : Trm (trim f) := by
  unfold Trm
  rw [length_trim, co_trim]
  rcases Nat.eq_zero_or_pos (tlen f) with h | h
  · exact .inl h
  · exact .inr (co_last f h)
theorem trm_nil : Trm [] := .inl rfl
theorem ext_co {f g : List Int} (hl : f.length = g.length) (h : ∀ k, co f k = co g k) : f = g := by
  refine List.ext_getElem hl fun k h1 h2 => ?_
  have := h k
  unfold co at this
  rw [List.getElem?_eq_getElem h1, List.getElem?_eq_getElem h2] at this
  exact this
theorem Trm.tlen {f : List Int} (h : Trm f) : tlen f = f.length := by
  have := tlen_le f
  rcases h with h | h
  · omega
  · have := tlen_gt_of h
    omega
theorem tlen_ext {f g : List Int} (h : ∀ k, co f k = co g k) : tlen f = tlen g := by
  have h1 : tlen f ≤ tlen g := tlen_le_of fun k hk => by rw [h k]; exact co_ge g k hk
  have h2 : tlen g ≤ tlen f := tlen_le_of fun k hk => by rw [← h k]; exact co_ge f k hk
  omega
theorem trm_ext {f g : List Int} (hf : Trm f) (hg : Trm g) (h : ∀ k, co f k = co g k) : f = g :=
  ext_co (by rw [← hf.tlen, ← hg.tlen, tlen_ext h]) h
theorem trim_trm {f : List Int} (h : Trm f) : trim f = f := trm_ext (trm_trim f) h (co_trim f)
theorem InF.co {p : Int} {f : List Int} (h : InF p f) (hp : 0 < p) (k : Nat) : 0 ≤ co f k ∧ co f k < p := by
  rcases Nat.lt_or_ge k f.length with hk | hk
  · exact h _ (List.mem_of_getElem? (co_some hk))
  · rw [co_out hk]; omega
theorem InF.mod {p : Int} {f : List Int} (h : InF p f) (hp : 0 < p) (k : Nat) : Go.Proofs.Ytiljppeamdoocaa.co f k % p = Go.Proofs.Ytiljppeamdoocaa.co f k := Int.emod_eq_of_lt (h.co hp k).1 (h.co hp k).2
theorem InF.of_co {p : Int} {f : List Int} (h : ∀ k, 0 ≤ Go.Proofs.Ytiljppeamdoocaa.co f k ∧ Go.Proofs.Ytiljppeamdoocaa.co f k < p) : InF p f := by
  intro x hx
  obtain ⟨k, hk⟩ := List.getElem?_of_mem hx
  have := h k
  rwa [co_get hk] at this
theorem InF.nil (p : Int) : InF p [] := fun x hx => by cases hx
/-- The trimmed list whose coefficients are c, modulo p. -/
def IsPol (p : Int) (c : Nat → Int) (f : List Int) : Prop := Trm f ∧ ∀ k, co f k = c k % p
theorem IsPol.uniq {p : Int} {c d : Nat → Int} {f g : List Int} (hf : IsPol p c f) (hg : IsPol p d g) (h : ∀ k, c k % p = d k % p) : f = g :=
  trm_ext hf.1 hg.1 fun k => by rw [hf.2, hg.2, h]
theorem IsPol.inF {p : Int} {c : Nat → Int} {f : List Int} (hp : 0 < p) (h : IsPol p c f) : InF p f :=
  InF.of_co fun k => by rw [h.2]; exact ⟨Int.emod_nonneg _ (by omega), Int.emod_lt_of_pos _ hp⟩
theorem IsPol.len {p : Int} {c : Nat → Int} {f : List Int} (h : IsPol p c f) {n : Nat} (h0 : ∀ k, n ≤ k → c k % p = 0) : f.length ≤ n := by
  rw [← h.1.tlen]
  exact tlen_le_of fun k hk => by rw [h.2]; exact h0 k hk
theorem isPol_trim {p : Int} {c : Nat → Int} {f : List Int} (h : ∀ k, co f k = c k % p) : IsPol p c (trim f) := ⟨trm_trim f, fun k => by rw [co_trim]; exact h k⟩
theorem isPol_self {p : Int} {f : List Int} (hp : 0 < p) (h : InF p f) (ht : Trm f) : IsPol p (co f) f := ⟨ht, fun k => (h.mod hp k).symm⟩

/-! ### Products -/
def sh (g : List Int) (i k : Nat) : Int := if i ≤ k then co g (k - i) else 0
theorem sh_lt (g : List Int) {i k : Nat} (h : k < i) : sh g i k = 0 := by unfold sh; rw [if_neg (by omega)]
theorem sh_ge (g : List Int) {i k : Nat} (h : i + g.length ≤ k) : sh g i k = 0 := by unfold sh; rw [if_pos (by omega)]; exact co_out (by omega)
theorem sh_add (g : List Int) (i j : Nat) : sh g i (i + j) = co g j := by unfold sh; rw [if_pos (by omega), Nat.add_sub_cancel_left]
theorem sh_bd {p : Int} {g : List Int} (hg : InF p g) (hp : 0 < p) (i k : Nat) : 0 ≤ sh g i k ∧ sh g i k < p := by
  unfold sh
  split
  · exact hg.co hp _
  · omega
def cvn (f g : List Int) : Nat → Nat → Int
  | 0, _ => 0
  | i + 1, k => cvn f g i k + co f i * sh g i k
def conv (f g : List Int) (k : Nat) : Int := cvn f g f.length k
theorem cvn_top (f g : List Int) : ∀ (i k : Nat), i + g.length ≤ k + 1 → cvn f g i k = 0
  | 0, _, _ => rfl
  | i + 1, k, h => by
    unfold cvn
    rw [cvn_top f g i k (by omega), sh_ge g (by omega)]
    simp
theorem cvn_out (f g : List Int) (k : Nat) : ∀ n : Nat, cvn f g (f.length + n) k = conv f g k
  | 0 => rfl
  | n + 1 => by
    show cvn f g (f.length + n) k + co f (f.length + n) * sh g (f.length + n) k = _
    rw [cvn_out f g k n, co_out (by omega)]
    simp
theorem conv_single (f : List Int) (c : Int) (k : Nat) : conv f [c] k = co f k * c := by
  have h : ∀ i, cvn f [c] i k = if k < i then co f k * c else 0 := by
    intro i
    induction i with
    | zero => rfl
    | succ i ih =>
      unfold cvn
      rw [ih]
      rcases Nat.lt_trichotomy k i with h | h | h
      · rw [if_pos h, if_pos (by omega), sh_lt _ h]; simp
      · subst h
        rw [if_neg (by omega), if_pos (by omega)]
        have : sh [c] k k = c := by have := sh_add [c] k 0; rw [Nat.add_zero] at this; rw [this]; rfl
        rw [this]; simp
      · rw [if_neg (by omega), if_neg (by omega), sh_ge _ (by simp; omega)]; simp
  unfold conv
  rw [h]
  split
  · rfl
  · rw [co_out (by omega)]; simp
theorem single_conv (f : List Int) (c : Int) (k : Nat) : conv [c] f k = c * co f k := by
  show cvn [c] f 1 k = _
  unfold cvn cvn
  rw [co_cons_zero]
  unfold sh
  simp

/-! ### Division -/
/-- The rest after t steps from the top; the quotient has K places. -/
def rdn (p inv : Int) (g : List Int) (f : Nat → Int) (K : Nat) : Nat → Nat → Int
  | 0 => f
  | t + 1 => fun j => (rdn p inv g f K t j - rdn p inv g f K t (K - 1 - t + g.length - 1) * inv * sh g (K - 1 - t) j) % p
def KOf (f g : List Int) : Nat := f.length + 1 - g.length
structure DivOk (p inv : Int) (g : List Int) (f : List Int) : Prop where
  hp : 1 < p
  hf : InF p f
  hg : InF p g
  hn : 0 < g.length
  hi : inv * co g (g.length - 1) % p = 1
theorem rdn_bd {p inv : Int} {g f : List Int} (D : DivOk p inv g f) (K : Nat) : ∀ t j, 0 ≤ rdn p inv g (co f) K t j ∧ rdn p inv g (co f) K t j < p
  | 0, j => D.hf.co (by have := D.hp; omega) j
  | t + 1, j => ⟨Int.emod_nonneg _ (by have := D.hp; omega), Int.emod_lt_of_pos _ (by have := D.hp; omega)⟩
theorem rdn_mod {p inv : Int} {g f : List Int} (D : DivOk p inv g f) (K : Nat) (t j : Nat) : rdn p inv g (co f) K t j % p = rdn p inv g (co f) K t j :=
  Int.emod_eq_of_lt (rdn_bd D K t j).1 (rdn_bd D K t j).2
theorem lead_out {p s inv l : Int} (h : inv * l % p = 1) : (s - s * inv * l) % p = 0 := by
  have h2 : s - s * inv * l = s * (1 - inv * l) := by rw [Int.mul_sub, Int.mul_one, Int.mul_assoc]
  rw [h2]
  have h3 : (1 - inv * l) % p = 0 := by
    have := Int.emod_add_mul_ediv (inv * l) p
    rw [h] at this
    have e : 1 - inv * l = p * (-(inv * l / p)) := by rw [Int.mul_neg]; omega
    rw [e]
    exact Int.mul_emod_right p _
  rw [Int.mul_emod, h3, Int.mul_zero, Int.zero_emod]
theorem rdn_top {p inv : Int} {g f : List Int} (D : DivOk p inv g f) : ∀ t, t ≤ KOf f g → ∀ j, KOf f g - t + g.length ≤ j + 1 → rdn p inv g (co f) (KOf f g) t j = 0
  | 0, _, j, hj => co_out (by unfold KOf at hj; omega)
  | t + 1, ht, j, hj => by
    have ih := rdn_top D t (by omega)
    have hn := D.hn
    show (rdn p inv g (co f) (KOf f g) t j - rdn p inv g (co f) (KOf f g) t (KOf f g - 1 - t + g.length - 1) * inv * sh g (KOf f g - 1 - t) j) % p = 0
    by_cases he : j = KOf f g - 1 - t + g.length - 1
    · have e2 : j = (KOf f g - 1 - t) + (g.length - 1) := by omega
      rw [← he, show sh g (KOf f g - 1 - t) j = co g (g.length - 1) by rw [e2]; exact sh_add g _ _]
      exact lead_out D.hi
    · rw [ih j (by omega), sh_ge g (by omega), Int.mul_zero]
      rfl
/-- A step at a zero changes nothing. -/
theorem rdn_skip {p inv : Int} {g f : List Int} (D : DivOk p inv g f) (K t : Nat) (h : rdn p inv g (co f) K t (K - 1 - t + g.length - 1) = 0) (j : Nat) : rdn p inv g (co f) K (t + 1) j = rdn p inv g (co f) K t j := by
  show (rdn p inv g (co f) K t j - rdn p inv g (co f) K t (K - 1 - t + g.length - 1) * inv * sh g (K - 1 - t) j) % p = _
  rw [h, Int.zero_mul, Int.zero_mul, Int.sub_zero, rdn_mod D]
/-- The rest does not change while its coefficients are zero. -/
theorem rdn_skips {p inv : Int} {g f : List Int} (D : DivOk p inv g f) {t : Nat} {L : Nat} (hL : ∀ j, L ≤ j → rdn p inv g (co f) (KOf f g) t j = 0) : ∀ m, t + m ≤ KOf f g → L + t + m ≤ KOf f g + g.length - 1 → ∀ j, rdn p inv g (co f) (KOf f g) (t + m) j = rdn p inv g (co f) (KOf f g) t j
  | 0, _, _, _ => rfl
  | m + 1, h1, h2, j => by
    have ih := rdn_skips D hL m (by omega) (by omega)
    have hn := D.hn
    rw [← ih j]
    refine rdn_skip D _ (t + m) ?_ j
    rw [ih]
    exact hL _ (by omega)
/-- The quotient's coefficients. -/
def quo (p inv : Int) (g f : List Int) (k : Nat) : Int := if k < KOf f g then rdn p inv g (co f) (KOf f g) (KOf f g - 1 - k) (k + g.length - 1) * inv % p else 0
theorem div_law {p inv : Int} {g f q : List Int} (D : DivOk p inv g f) (hq : ∀ k, co q k = quo p inv g f k) : ∀ t, t ≤ KOf f g → ∀ j,
    (cvn q g (KOf f g) j - cvn q g (KOf f g - t) j + rdn p inv g (co f) (KOf f g) t j) % p = co f j
  | 0, _, j => by
    rw [Nat.sub_zero, Int.sub_self, Int.zero_add]
    exact rdn_mod D _ 0 j
  | t + 1, ht, j => by
    have ih := div_law D hq t (by omega) j
    obtain ⟨i, hi⟩ : ∃ i, KOf f g - 1 - t = i := ⟨_, rfl⟩
    have e1 : KOf f g - t = i + 1 := by omega
    have e2 : KOf f g - (t + 1) = i := by omega
    have e3 : KOf f g - 1 - i = t := by omega
    rw [e1] at ih
    rw [e2]
    have hc : co q i = rdn p inv g (co f) (KOf f g) t (i + g.length - 1) * inv % p := by rw [hq]; unfold quo; rw [if_pos (by omega), e3]
    have hs : rdn p inv g (co f) (KOf f g) (t + 1) j = (rdn p inv g (co f) (KOf f g) t j - rdn p inv g (co f) (KOf f g) t (KOf f g - 1 - t + g.length - 1) * inv * sh g (KOf f g - 1 - t) j) % p := rfl
    rw [hi] at hs
    rw [hs]
    have h5 : cvn q g (i + 1) j = cvn q g i j + co q i * sh g i j := rfl
    rw [h5] at ih
    rw [← ih]
    generalize rdn p inv g (co f) (KOf f g) t (i + g.length - 1) * inv = c at hc ⊢
    generalize rdn p inv g (co f) (KOf f g) t j = r at *
    generalize sh g i j = s
    rw [hc]
    generalize cvn q g (KOf f g) j = A
    generalize cvn q g i j = B
    rw [Int.add_emod_emod]
    have hm : c = c % p + p * (c / p) := (Int.emod_add_mul_ediv c p).symm
    have e : A - B + (r - c * s) = (A - (B + c % p * s) + r) + p * (-(c / p) * s) := by
      generalize c % p = m at hm ⊢
      generalize c / p = d at hm ⊢
      subst hm
      grind
    rw [e, Int.add_mul_emod_self_left]
end Go.Proofs.Ytiljppeamdoocaa
namespace Go.Proofs.Ytiljppeamdoocaa
open Go.RowKit

open Classical in
noncomputable def fldE (p : Int) : Int := if 2 ≤ p ∧ p ≤ 997 ∧ IsPr p.toNat then 0 else 1
def outF (p : Int) (c : Int) : Bool := decide (c < 0) || decide (p ≤ c)
noncomputable def polE (p : Int) (f : List Int) : Int :=
  if fldE p = 1 then 1 else if 40 < f.length then 2 else if f.any (outF p) = true then 1 else if 0 < f.length ∧ co f (f.length - 1) = 0 then 3 else 0
theorem fldE_zero {p : Int} (h : 2 ≤ p) (h2 : p ≤ 997) (h3 : IsPr p.toNat) : fldE p = 0 := by unfold fldE; rw [if_pos ⟨h, h2, h3⟩]
theorem fldE_one {p : Int} (h : ¬ (2 ≤ p ∧ p ≤ 997 ∧ IsPr p.toNat)) : fldE p = 1 := by unfold fldE; rw [if_neg h]
theorem fldE_cases (p : Int) : (fldE p = 0 ∧ 2 ≤ p ∧ p ≤ 997 ∧ IsPr p.toNat) ∨ fldE p = 1 := by
  unfold fldE
  split
  · exact .inl ⟨rfl, ‹_›⟩
  · exact .inr rfl
set_option maxRecDepth 20000 in
set_option maxHeartbeats 1000000 in
theorem poly_Field (p : Int) (w : World) (_h : (Lit.int .i64 p).wf = true) :
    Calls Try.prog 37 #[.int .i64 p] w fun e w' => e = .returned (.int .i64 (fldE p)) ∧ w' = w := by
  by_cases hr : 0 ≤ p ∧ p ≤ 1000000
  · obtain ⟨n, rfl⟩ : ∃ n : Nat, p = n := ⟨p.toNat, by omega⟩
    have hn : n ≤ 1000000 := by omega
    cases hb : prB n with
    | false =>
      have hE : Hid (fldE (n : Int) = 1) := fldE_one (by rw [Int.toNat_natCast]; exact fun h => by rw [prB_true h.2.2] at hb; cases hb)
      have HB := Lib.hid hb
      clear hb hr
      go_enter Try.func37, Try.ntmps37
      go_wp2_with (go_at_call 99; refine (prime_Is n _ hn).mono ?_; rw [HB.out]; rintro e w' ⟨rfl, rfl⟩)
      go_ret
      exact ⟨by rw [hE.out]; rfl, rfl⟩
    | true =>
      have HB := Lib.hid hb
      have hpr := prB_iff.1 hb
      by_cases h9 : n ≤ 997
      · have hE : Hid (fldE (n : Int) = 0) := fldE_zero (by have := hpr.1; omega) (by omega) (by rw [Int.toNat_natCast]; exact hpr)
        have d1 : decide ((997 : Int) < n) = false := by simp; omega
        clear hb hr hpr
        go_enter Try.func37, Try.ntmps37
        go_wp2_with (go_at_call 99; refine (prime_Is n _ hn).mono ?_; rw [HB.out]; rintro e w' ⟨rfl, rfl⟩)
        go_ret
        exact ⟨by rw [hE.out]; rfl, rfl⟩
      · have hE : Hid (fldE (n : Int) = 1) := fldE_one (by omega)
        have d1 : decide ((997 : Int) < n) = true := by simp; omega
        clear hb hr hpr
        go_enter Try.func37, Try.ntmps37
        go_wp2_with (go_at_call 99; refine (prime_Is n _ hn).mono ?_; rw [HB.out]; rintro e w' ⟨rfl, rfl⟩)
        go_ret
        exact ⟨by rw [hE.out]; rfl, rfl⟩
  · have hE : Hid (fldE p = 1) := fldE_one (by omega)
    have hp : p < 0 ∨ 1000000 < p := by omega
    clear hr
    go_enter Try.func37, Try.ntmps37
    go_wp2_with (go_at_call 99; refine (prime_Is_bad p _ hp).mono ?_; rintro e w' ⟨rfl, rfl⟩)
    go_ret
    exact ⟨by rw [hE.out]; rfl, rfl⟩
theorem poly_out (x p : Int) (b : Nat) (w : World) (hc : w.cell? ⟨b, 0, none⟩ = some (.int .i64 p)) :
    Calls Try.prog 100 #[.int .i64 x, .pointer (some ⟨b, 0, none⟩)] w fun e w' => e = .returned (.bool (outF p x)) ∧ w' = w := by
  go_enter Try.func100, Try.ntmps100
  unfold outF
  cases h : decide (x < 0) with
  | true =>
    go_wp2_with fail
    go_ret
    exact ⟨by simp, rfl⟩
  | false =>
    go_wp2_with fail
    go_ret
    exact ⟨by simp, rfl⟩
set_option maxRecDepth 20000 in
set_option maxHeartbeats 1000000 in
theorem poly_Check (p : Int) (zs : List Int) (ao : Option Addr) (n cap : Nat) (w : World) (hp : (Lit.int .i64 p).wf = true) (hl : zs.length = n) (h63 : n ≤ 9223372036854775807) (hR : Hid (Reads w ao (zs.map (Value.int .i64)))) :
    Calls Try.prog 39 #[.int .i64 p, .slice ao n cap] w fun e w' => e = .returned (.int .i64 (polE p zs)) ∧ Below w.heap.size w w' := by
  have HL := Lib.hid hl
  have hb := Lib.hid ((Below.refl w.heap.size w).alloc (Nat.le_refl _) (.cells #[.int .i64 p] 3))
  have HR := Lib.hid (hR.out.alloc (.cells #[.int .i64 p] 3))
  have HP := Lib.hid hp
  have hc0 : Hid ((w.alloc (.cells #[.int .i64 p] 3)).cell? ⟨w.heap.size, 0, none⟩ = some (.int .i64 p)) := by show _ = _; simp [World.cell?_alloc_new]
  clear hl hp
  rcases fldE_cases p with ⟨hf, p1, p2, p3⟩ | hf
  · have HF := Lib.hid hf
    clear p3
    by_cases h40 : 40 < n
    · have hE : Hid (polE p zs = 2) := by show _ = _; unfold polE; rw [HF.out, if_neg (by omega), if_pos (by rw [HL.out]; exact h40)]
      have d1 : decide ((40 : Int) < n) = true := by simp; omega
      clear hf h40
      go_enter Try.func39, Try.ntmps39
      go_wp2_with (go_at_call 37; refine (poly_Field p _ HP.out).mono ?_; rw [HF.out]; rintro e w' ⟨rfl, rfl⟩)
      go_ret
      exact ⟨by rw [hE.out]; rfl, hb.out⟩
    · have d1 : decide ((40 : Int) < n) = false := by simp; omega
      have hany : ∃ b, zs.any (outF p) = b := ⟨_, rfl⟩
      obtain ⟨b, hany⟩ := hany
      have HA := Lib.hid hany
      have hCF : Hid (Calls Try.prog 53 #[.slice ao zs.length cap, .func (.func 100) #[] #[.pointer (some ⟨w.heap.size, 0, none⟩)]] (w.alloc (.cells #[.int .i64 p] 3)) fun e w' => e = .returned (.bool (zs.any (outF p))) ∧ ∃ n, w' = (w.alloc (.cells #[.int .i64 p] 3)).drewN n) := by
        refine containsFunc_cap 100 (.pointer (some ⟨w.heap.size, 0, none⟩)) (fun x W => by go_simp) (outF p) zs ao cap _ (by rw [HL.out]; exact h63) HR ?_
        intro x hx m
        refine (poly_out x p w.heap.size ((w.alloc (.cells #[.int .i64 p] 3)).drewN m) (show World.cell? _ _ = _ from hc0.out)).mono ?_
        rintro e w' ⟨rfl, rfl⟩
        exact ⟨rfl, 0, rfl⟩
      rw [HA.out, HL.out] at hCF
      cases b with
      | true =>
        have hE : Hid (polE p zs = 1) := by show _ = _; unfold polE; rw [HF.out, if_neg (by omega), if_neg (by rw [HL.out]; exact h40), if_pos HA.out]
        clear hf h40 hany
        go_enter Try.func39, Try.ntmps39
        go_wp2_with (first | (go_at_call 37; refine (poly_Field p _ HP.out).mono ?_; rw [HF.out]; rintro e w' ⟨rfl, rfl⟩) | (go_at_call 53; refine hCF.out.mono ?_; rintro e w' ⟨rfl, m, rfl⟩))
        go_ret
        exact ⟨by rw [hE.out]; rfl, below_drewN hb.out m⟩
      | false =>
        by_cases h0 : 0 < n
        · have d2 : decide ((0 : Int) < n) = true := by simp; omega
          obtain ⟨x, hx⟩ : ∃ x, co zs (n - 1) = x := ⟨_, rfl⟩
          obtain ⟨b, o, rfl, hcx⟩ := HR.out (n - 1) (.int .i64 x) (by rw [List.getElem?_map, co_some (by rw [HL.out]; omega), hx]; rfl)
          obtain ⟨j, hj⟩ : ∃ j, n - 1 = j := ⟨_, rfl⟩
          have hj2 : (n : Int) - 1 = j := by omega
          have hjl : j < n := by omega
          have hw1 : IntKind.i64.wrap ((n : Int) - 1) = j := by rw [hj2]; exact IntWalk.i64_in _ (by omega)
          have j0 : (0 : Int) ≤ j := by omega
          have j1 : (j : Int) < n := by omega
          rw [hj] at hcx
          have HX : Hid (co zs (zs.length - 1) = x) := by show _ = _; rw [HL.out]; exact hx
          cases hz : (x == 0) with
          | true =>
            have hE : Hid (polE p zs = 3) := by show _ = _; unfold polE; rw [HF.out, if_neg (by omega), if_neg (by rw [HL.out]; exact h40), if_neg (by rw [HA.out]; simp), if_pos ⟨by rw [HL.out]; exact h0, by rw [HX.out]; simpa using hz⟩]
            clear hf h40 hany hj hj2 hx
            go_enter Try.func39, Try.ntmps39
            go_wp2_with (first | (go_at_call 37; refine (poly_Field p _ HP.out).mono ?_; rw [HF.out]; rintro e w' ⟨rfl, rfl⟩) | (go_at_call 53; refine hCF.out.mono ?_; rintro e w' ⟨rfl, m, rfl⟩))
            go_ret
            exact ⟨by rw [hE.out]; rfl, below_drewN hb.out m⟩
          | false =>
            have hE : Hid (polE p zs = 0) := by show _ = _; unfold polE; rw [HF.out, if_neg (by omega), if_neg (by rw [HL.out]; exact h40), if_neg (by rw [HA.out]; simp), if_neg (by rw [HX.out]; intro h; simp [h.2] at hz)]
            clear hf h40 hany hj hj2 hx
            go_enter Try.func39, Try.ntmps39
            go_wp2_with (first | (go_at_call 37; refine (poly_Field p _ HP.out).mono ?_; rw [HF.out]; rintro e w' ⟨rfl, rfl⟩) | (go_at_call 53; refine hCF.out.mono ?_; rintro e w' ⟨rfl, m, rfl⟩))
            go_ret
            exact ⟨by rw [hE.out]; rfl, below_drewN hb.out m⟩
        · have hE : Hid (polE p zs = 0) := by show _ = _; unfold polE; rw [HF.out, if_neg (by omega), if_neg (by rw [HL.out]; exact h40), if_neg (by rw [HA.out]; simp), if_neg (by rw [HL.out]; omega)]
          have d2 : decide ((0 : Int) < n) = false := by simp; omega
          clear hf h40 hany
          go_enter Try.func39, Try.ntmps39
          go_wp2_with (first | (go_at_call 37; refine (poly_Field p _ HP.out).mono ?_; rw [HF.out]; rintro e w' ⟨rfl, rfl⟩) | (go_at_call 53; refine hCF.out.mono ?_; rintro e w' ⟨rfl, m, rfl⟩))
          go_ret
          exact ⟨by rw [hE.out]; rfl, below_drewN hb.out m⟩
  · have HF := Lib.hid hf
    have hE : Hid (polE p zs = 1) := by show _ = _; unfold polE; rw [HF.out, if_pos rfl]
    clear hf
    go_enter Try.func39, Try.ntmps39
    go_wp2_with (go_at_call 37; refine (poly_Field p _ HP.out).mono ?_; rw [HF.out]; rintro e w' ⟨rfl, rfl⟩)
    go_ret
    exact ⟨by rw [hE.out]; rfl, hb.out⟩
end Go.Proofs.Ytiljppeamdoocaa
namespace Go.Proofs.Ytiljppeamdoocaa
open Go.RowKit

theorem clip_int (ao : Option Addr) (n cap : Nat) (w : World) (h63 : cap ≤ 9223372036854775807) (hc : n ≤ cap) :
    Calls Try.prog 72 #[.slice ao n cap] w fun e w' => e = .returned (.slice ao n n) ∧ w' = w := by
  go_enter Try.func72, Try.ntmps72
  go_wp2_with fail
  go_ret
  exact ⟨rfl, rfl⟩
end Go.Proofs.Ytiljppeamdoocaa
