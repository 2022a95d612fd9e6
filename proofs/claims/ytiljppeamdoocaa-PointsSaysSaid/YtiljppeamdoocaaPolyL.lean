/- PolySays: the plain law of its steps, and the contracts as the walk takes them. -/
import Derived.Test.YtiljppeamdoocaaPoly8
import Derived.Test.YtiljppeamdoocaaEqualInt
namespace Go.Proofs.Ytiljppeamdoocaa
open Go.RowKit

theorem pr_mul {p a b : Int} (hp : IsPr p.toNat) (ha : 0 < a) (ha2 : a < p) (hb : 0 < b) (hb2 : b < p) : a * b % p ≠ 0 := by
  intro h
  have h2 := Int.dvd_of_emod_eq_zero h
  obtain ⟨n, rfl⟩ : ∃ n : Nat, p = n := ⟨p.toNat, by omega⟩
  rw [Int.toNat_natCast] at hp
  rw [← Int.natAbs_dvd_natAbs, Int.natAbs_mul] at h2
  rcases IsPr.dvd_mul (by simpa using hp) h2 with h3 | h3
  · have := Nat.le_of_dvd (by omega) h3; omega
  · have := Nat.le_of_dvd (by omega) h3; omega
theorem PolOk.top {p : Int} {f : List Int} (h : PolOk p f) (hn : 0 < f.length) : 0 < co f (f.length - 1) ∧ co f (f.length - 1) < p := by
  have hb := h.inF.co (by have := h.p1; omega) (f.length - 1)
  rcases h.trm with h2 | h2
  · omega
  · omega
theorem mul_len {p : Int} {f g h : List Int} (OF : PolOk p f) (OG : PolOk p g) (hh : IsPol p (conv f g) h) (hf : 0 < f.length) (hg : 0 < g.length) : h.length = f.length + g.length - 1 := by
  have h1 : h.length ≤ f.length + g.length - 1 := hh.len fun k hk => by
    rw [show conv f g k = 0 from cvn_top f g _ _ (by omega), Int.zero_emod]
  have h2 : co h (f.length + g.length - 2) ≠ 0 := by
    rw [hh.2]
    obtain ⟨m, hm⟩ : ∃ m, f.length = m + 1 := ⟨f.length - 1, by omega⟩
    have e : conv f g (f.length + g.length - 2) = cvn f g m (f.length + g.length - 2) + co f m * sh g m (f.length + g.length - 2) := by
      unfold conv
      rw [hm]; rfl
    rw [e, cvn_top f g m _ (by omega), Int.zero_add, show f.length + g.length - 2 = m + (g.length - 1) by omega, sh_add]
    have t1 := OF.top hf
    have t2 := OG.top hg
    rw [hm, Nat.add_sub_cancel] at t1
    exact pr_mul OF.pr t1.1 t1.2 t2.1 t2.2
  have h3 := tlen_gt_of h2
  rw [hh.1.tlen] at h3
  omega
theorem mul_nil {p : Int} {f g h : List Int} (hh : IsPol p (conv f g) h) (h0 : f.length = 0 ∨ g.length = 0) : h.length = 0 := by
  have : h.length ≤ 0 := hh.len fun k _ => by
    rcases h0 with h | h
    · rw [List.eq_nil_of_length_eq_zero h]; exact Int.zero_emod p
    · rw [List.eq_nil_of_length_eq_zero h, conv_nil_r]; exact Int.zero_emod p
  omega
theorem sh_zero (g : List Int) (k : Nat) : sh g 0 k = co g k := by unfold sh; rw [if_pos (Nat.zero_le _)]; rfl
theorem add_same {p : Int} {f g h h2 : List Int} (h1 : IsPol p (fun k => co f k + co g k) h) (h3 : IsPol p (fun k => co f k + 1 * sh g 0 k) h2) : h = h2 :=
  h1.uniq h3 fun k => by rw [sh_zero, Int.one_mul]
theorem quo_len {p inv : Int} {f g q : List Int} (ht : Trm q) (hq : ∀ k, co q k = quo p inv g f k) : q.length ≤ KOf f g := by
  rw [← ht.tlen]
  exact tlen_le_of fun k hk => by rw [hq]; unfold quo; rw [if_neg (by omega)]
theorem div_same {p inv : Int} {f g q r h h2 : List Int} (D : DivOk p inv g f) (hft : Trm f) (hq : Trm q ∧ ∀ k, co q k = quo p inv g f k) (hr : Trm r ∧ ∀ k, co r k = rdn p inv g (co f) (KOf f g) (KOf f g) k)
    (h1 : IsPol p (conv q g) h) (h3 : IsPol p (fun k => co h k + 1 * sh r 0 k) h2) : h2 = f := by
  have hp := D.hp
  refine h3.uniq (isPol_self (by omega) D.hf hft) fun k => ?_
  have hl := quo_len hq.1 hq.2
  have hd := div_law D hq.2 (KOf f g) (Nat.le_refl _) k
  rw [Nat.sub_self] at hd
  have e1 : cvn q g (KOf f g) k = conv q g k := by
    have := cvn_out q g k (KOf f g - q.length)
    rwa [show q.length + (KOf f g - q.length) = KOf f g by omega] at this
  rw [e1, show cvn q g 0 k = 0 from rfl, Int.sub_zero] at hd
  rw [sh_zero, Int.one_mul, h1.2, hr.2, Int.emod_add_emod, hd]
  exact (D.hf.mod (by omega) k).symm
theorem quo_inF {p inv : Int} {f g q : List Int} (D : DivOk p inv g f) (hq : ∀ k, co q k = quo p inv g f k) : InF p q := InF.of_co fun k => by
  have hp := D.hp
  rw [hq]
  unfold quo
  split
  · exact ⟨Int.emod_nonneg _ (by omega), Int.emod_lt_of_pos _ (by omega)⟩
  · omega
theorem rem_inF {p inv : Int} {f g r : List Int} (D : DivOk p inv g f) (hr : ∀ k, co r k = rdn p inv g (co f) (KOf f g) (KOf f g) k) : InF p r := InF.of_co fun k => by
  rw [hr]
  exact rdn_bd D _ _ _
/-- No error, and the polynomial. -/
theorem poly_Mul_small (p : Int) (f g : List Int) (ao bo : Option Addr) (nf ng ca cb : Nat) (w : World) (hp : (Lit.int .i64 p).wf = true) (hlf : f.length = nf) (hlg : g.length = ng)
    (hF : Hid (Reads w ao (f.map (Value.int .i64)))) (hG : Hid (Reads w bo (g.map (Value.int .i64)))) (hf : polE p f = 0) (hg : polE p g = 0) (hs : nf = 0 ∨ ng = 0 ∨ nf + ng ≤ 41) :
    Calls Try.prog 35 #[.int .i64 p, .slice ao nf ca, .slice bo ng cb] w (Pol2Post p (conv f g) w) := by
  refine (poly_Mul p f g ao bo nf ng ca cb w hp hlf hlg hF hG hf hg).mono ?_
  rintro e w' ⟨h, hpol, hb, ⟨h40, _⟩ | ⟨_, v, rfl, ho⟩⟩
  · exfalso
    rcases Nat.eq_zero_or_pos nf with h0 | h0
    · have := mul_nil hpol (.inl (by omega)); omega
    · rcases Nat.eq_zero_or_pos ng with h1 | h1
      · have := mul_nil hpol (.inr (by omega)); omega
      · have := mul_len (polOk_of hf) (polOk_of hg) hpol (by omega) (by omega); omega
  · exact ⟨h, v, hpol, hb, rfl, ho⟩
theorem poly_Mul_big (p : Int) (f g : List Int) (ao bo : Option Addr) (nf ng ca cb : Nat) (w : World) (hp : (Lit.int .i64 p).wf = true) (hlf : f.length = nf) (hlg : g.length = ng)
    (hF : Hid (Reads w ao (f.map (Value.int .i64)))) (hG : Hid (Reads w bo (g.map (Value.int .i64)))) (hf : polE p f = 0) (hg : polE p g = 0) (h0 : 0 < nf) (h1 : 0 < ng) (hs : 41 < nf + ng) :
    Calls Try.prog 35 #[.int .i64 p, .slice ao nf ca, .slice bo ng cb] w fun e w' => e = .returned (.tuple #[.slice none 0 0, .int .i64 2]) ∧ Below w.heap.size w w' := by
  refine (poly_Mul p f g ao bo nf ng ca cb w hp hlf hlg hF hG hf hg).mono ?_
  rintro e w' ⟨h, hpol, hb, ⟨h40, rfl⟩ | ⟨h40, _⟩⟩
  · exact ⟨rfl, hb⟩
  · have := mul_len (polOk_of hf) (polOk_of hg) hpol (by omega) (by omega); omega
set_option maxHeartbeats 400000 in
theorem same_int (xs ys : List Int) (ao bo : Option Addr) (ca cb : Nat) (w : World) (hlx : xs.length ≤ 9223372036854775807) (hly : ys.length ≤ 9223372036854775807)
    (hX : Hid (Reads w ao (xs.map (Value.int .i64)))) (hY : Hid (Reads w bo (ys.map (Value.int .i64)))) (he : xs = ys) :
    Calls Try.prog 41 #[.slice ao xs.length ca, .slice bo ys.length cb] w fun e w' => e = .returned (.bool true) ∧ ∃ n, w' = w.drewN n := by
  have HE := Lib.hid (decide_eq_true he)
  have C := Lib.hid (equal_int xs ys ao bo ca cb w hlx hly hX hY)
  rw [HE.out] at C
  clear he hlx hly
  go_enter Try.func41, Try.ntmps41
  go_wp2_with (go_at_call 14; refine C.out.mono ?_; rintro e w' ⟨rfl, n, rfl⟩)
  go_ret
  exact ⟨rfl, n, rfl⟩
end Go.Proofs.Ytiljppeamdoocaa
