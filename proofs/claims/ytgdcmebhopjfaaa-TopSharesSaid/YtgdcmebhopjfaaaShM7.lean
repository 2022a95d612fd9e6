/- Remain of the reference. -/
import Derived.Test.YtgdcmebhopjfaaaShM6
import Derived.RegionTactic
import Derived.Test.YtgdcmebhopjfaaaRows
import Derived.Test.YtgdcmebhopjfaaaShM3
import Derived.Test.YtgdcmebhopjfaaaShM4
import Derived.RangeFuncBox
import Derived.RangeFuncLeaves
import Derived.Shelf.Abstract
import Derived.WalkKit
import Derived.OwnWalkIn
import Derived.TacticsInMore
import Derived.LoopNIn
import Derived.LoopIn
import Derived.RangeFuncNested
import Derived.RangeFuncBound
import Derived.RangeFuncCalls
import Derived.Shelf.RegionOpen
namespace Go.Proofs.Ytgdcmebhopjfaaa
open Go.RowKit

theorem inv_same {p b inv l : Int} (hp : 1 < p) (hb : b * l % p = 1) (hi : inv * l % p = 1) : b % p = inv % p := by
  obtain ⟨n, rfl⟩ : ∃ n : Nat, p = n := ⟨p.toNat, by omega⟩
  have e1 : (1 : Int) % (n : Int) = 1 := Int.emod_eq_of_lt (by omega) (by omega)
  exact inv_uniq (a := l) (by rw [hb, e1]) (by rw [hi, e1])
theorem step_same {p b inv : Int} (h : b % p = inv % p) (s x t : Int) : (s + (-b) * x * t) % p = (s - x * inv * t) % p := by
  have hb : b = b % p + p * (b / p) := (Int.emod_add_mul_ediv b p).symm
  have hi : inv = inv % p + p * (inv / p) := (Int.emod_add_mul_ediv inv p).symm
  rw [← h] at hi
  have e : s + (-b) * x * t = (s - x * inv * t) + p * ((inv / p - b / p) * x * t) := by
    generalize b % p = m at hb hi
    generalize b / p = d at hb ⊢
    generalize inv / p = d2 at hi ⊢
    subst hb hi
    grind
  rw [e, Int.add_mul_emod_self_left]
/-- The rest after the next step that is no empty one. -/
theorem rdn_next {p inv b : Int} {g f h : List Int} (D : DivOk p inv g f) (hbi : b % p = inv % p) {t : Nat} (ht : t ≤ KOf f g) (hh : ∀ k, co h k = rdn p inv g (co f) (KOf f g) t k) (htr : Trm h) (hl : g.length ≤ h.length) :
    ∃ t', t' + 1 ≤ KOf f g ∧ (∀ k, (co h k + (-b) * co h (h.length - 1) * sh g (h.length - g.length) k) % p = rdn p inv g (co f) (KOf f g) (t' + 1) k) ∧ (∀ k, h.length - 1 ≤ k → rdn p inv g (co f) (KOf f g) (t' + 1) k = 0) := by
  have hn := D.hn
  have hL : h.length ≤ KOf f g - t + g.length - 1 := by
    rw [← htr.tlen]
    refine tlen_le_of fun k hk => ?_
    rw [hh]
    exact rdn_top D t ht k (by omega)
  refine ⟨KOf f g - 1 - (h.length - g.length), by omega, fun k => ?_, fun k hk => rdn_top D _ (by omega) k (by omega)⟩
  have hsk : ∀ j, rdn p inv g (co f) (KOf f g) (KOf f g - 1 - (h.length - g.length)) j = co h j := by
    intro j
    have h1 := rdn_skips D (t := t) (L := h.length) (fun j hj => by rw [← hh]; exact co_out hj) (KOf f g - 1 - (h.length - g.length) - t) (by omega) (by omega) j
    rw [show t + (KOf f g - 1 - (h.length - g.length) - t) = KOf f g - 1 - (h.length - g.length) by omega] at h1
    rw [h1, hh]
  show _ = (rdn p inv g (co f) (KOf f g) (KOf f g - 1 - (h.length - g.length)) k - rdn p inv g (co f) (KOf f g) (KOf f g - 1 - (h.length - g.length)) (KOf f g - 1 - (KOf f g - 1 - (h.length - g.length)) + g.length - 1) * inv * sh g (KOf f g - 1 - (KOf f g - 1 - (h.length - g.length))) k) % p
  rw [hsk, hsk, show KOf f g - 1 - (KOf f g - 1 - (h.length - g.length)) = h.length - g.length by omega, show h.length - g.length + g.length - 1 = h.length - 1 by omega]
  exact step_same hbi _ _ _
theorem rdn_end {p inv : Int} {g f h : List Int} (D : DivOk p inv g f) {t : Nat} (ht : t ≤ KOf f g) (hh : ∀ k, co h k = rdn p inv g (co f) (KOf f g) t k) (hl : h.length < g.length) (k : Nat) : co h k = rdn p inv g (co f) (KOf f g) (KOf f g) k := by
  have h1 := rdn_skips D (t := t) (L := h.length) (fun j hj => by rw [← hh]; exact co_out hj) (KOf f g - t) (by omega) (by omega) k
  rw [show t + (KOf f g - t) = KOf f g by omega] at h1
  rw [h1, hh]
def RemPost (p inv : Int) (f g : List Int) (w : World) (e : Ending) (w' : World) : Prop :=
  ∃ h, Trm h ∧ (∀ k, co h k = rdn p inv g (co f) (KOf f g) (KOf f g) k) ∧ h.length < g.length ∧ ListPost w.heap.size h w e w'
end Go.Proofs.Ytgdcmebhopjfaaa
namespace Go.Proofs.Ytgdcmebhopjfaaa
open Go.RowKit
set_option maxRecDepth 20000 in
set_option maxHeartbeats 1000000 in
/-- slices.Equal[[]int,int]. -/
theorem equal_int (xs ys : List Int) (ao bo : Option Addr) (ca cb : Nat) (w : World) (hlx : xs.length ≤ 9223372036854775807) (hly : ys.length ≤ 9223372036854775807)
    (hX : Hid (Reads w ao (xs.map (Value.int .i64)))) (hY : Hid (Reads w bo (ys.map (Value.int .i64)))) :
    Calls Try.prog 21 #[.slice ao xs.length ca, .slice bo ys.length cb] w fun e w' => e = .returned (.bool (decide (xs = ys))) ∧ ∃ n, w' = w.drewN n := by
  obtain ⟨lx, hlenx⟩ : ∃ n, xs.length = n := ⟨_, rfl⟩
  obtain ⟨ly, hleny⟩ : ∃ n, ys.length = n := ⟨_, rfl⟩
  rw [hlenx] at hlx ⊢
  rw [hleny] at hly ⊢
  have HLX := Lib.hid hlenx
  have HLY := Lib.hid hleny
  clear hlenx hleny
  by_cases hne : lx = ly
  · subst hne
    go_enter Try.func21, Try.ntmps21
    go_wp2_with fail
    go_loopw [13] (fun vi wr => ∃ k : Nat, vi = .int .i64 k ∧ k ≤ lx ∧ Hid (∀ j, j < k → xs[j]? = ys[j]?) ∧ ∃ n, wr = w.drewN n) (fun vi _ => lx - (intOf vi).toNat)
    case atStart => exact ⟨0, rfl, by omega, by intro j hj; omega, 0, rfl⟩
    case round =>
      obtain ⟨k, rfl, hk, hsame, n, rfl⟩ := hrel
      by_cases hkl : k < lx
      · obtain ⟨x, hx⟩ : ∃ x, xs[k]? = some x := ⟨xs[k]'(by rw [HLX.out]; exact hkl), List.getElem?_eq_getElem _⟩
        obtain ⟨y, hy⟩ : ∃ y, ys[k]? = some y := ⟨ys[k]'(by rw [HLY.out]; exact hkl), List.getElem?_eq_getElem _⟩
        obtain ⟨b, o, rfl, hc⟩ := hX.out k (.int .i64 x) (by simp [hx])
        obtain ⟨b2, o2, rfl, hc2⟩ := hY.out k (.int .i64 y) (by simp [hy])
        have HX := Lib.hid hx
        have HY := Lib.hid hy
        clear hx hy
        have i0 : (0 : Int) ≤ (k : Int) := by omega
        have i1 : (k : Int) < (lx : Int) := by omega
        go_wp2_with fail
        go_quiet (fail)
        by_cases hxy : x = y
        · have hb : (x != y) = false := by simp [hxy]
          have HXY := Lib.hid hxy
          clear hxy
          go_wp2
          go_roundw
          case rel => exact ⟨k + 1, by go_num, by omega, by
            intro j hj
            by_cases he : j = k
            · subst he; rw [HX.out, HY.out, HXY.out]
            · exact hsame.out j (by omega), by first | exact ⟨_, rfl⟩ | exact dr2 _ _ _⟩
          case measure => simp [intOf]; omega
        · have hb : (x != y) = true := by simp [hxy]
          have HXY := Lib.hid hxy
          clear hxy
          go_wp2
          go_ret
          refine ⟨ret_bool ?_, by first | exact ⟨_, rfl⟩ | exact dr2 _ _ _⟩
          refine (decide_eq_false fun h => HXY.out ?_).symm
          have h2 := HX.out
          rw [h, HY.out] at h2
          injection h2 with h2
          exact h2.symm
      · obtain rfl : k = lx := by omega
        go_wp2
        go_ret
        refine ⟨ret_bool (decide_eq_true ?_).symm, _, rfl⟩
        apply List.ext_getElem?
        intro j
        by_cases hj : j < k
        · exact hsame.out j hj
        · rw [List.getElem?_eq_none (by rw [HLX.out]; omega), List.getElem?_eq_none (by rw [HLY.out]; omega)]
  · have hn : ((lx : Int) != (ly : Int)) = true := by simp; omega
    have hn2 : decide (lx = ly) = false := by simp [hne]
    go_enter Try.func21, Try.ntmps21
    go_wp2_with fail
    go_ret
    refine ⟨ret_bool (decide_eq_false fun h => hne ?_).symm, 0, rfl⟩
    rw [← HLX.out, ← HLY.out, h]

end Go.Proofs.Ytgdcmebhopjfaaa
namespace Go.Proofs.Ytgdcmebhopjfaaa
open Go.RowKit

theorem pr_mul {p a b : Int} (hp : IsPr p.toNat) (ha : 0 < a) (ha2 : a < p) (hb : 0 < b) (hb2 : b < p) : a * b % p ≠ 0 := by
  intro h
  have h2 := Int.dvd_of_emod_eq_zero h
  obtain ⟨n, rfl⟩ : ∃ n : Nat, p = n := ⟨p.toNat, by omega⟩
  rw [Int.toNat_natCast] at hp
  rw [← Int.natAbs_dvd_natAbs, Int.natAbs_mul] at h2
  rcases IsPr.dvd_mul (by simpa using hp) h2 with h3 | h3
  · have := Nat.le_of_dvd (by omega) h3; omega
  · have := Nat.le_of_dvd (by omega) h3; omega
theorem PolOk.top {p : Int} {f : List Int} (h : PolOk p f) (hn : 0 < f.length) : 0 < co f (f.length - 1) ∧ co f (f.length - 1) < p := by
  have hb := h.inF.co (by have := h.p1; omega) (f.length - 1)
  rcases h.trm with h2 | h2
  · omega
  · omega
theorem mul_len {p : Int} {f g h : List Int} (OF : PolOk p f) (OG : PolOk p g) (hh : IsPol p (conv f g) h) (hf : 0 < f.length) (hg : 0 < g.length) : h.length = f.length + g.length - 1 := by
  have h1 : h.length ≤ f.length + g.length - 1 := hh.len fun k hk => by
    rw [show conv f g k = 0 from cvn_top f g _ _ (by omega), Int.zero_emod]
  have h2 : co h (f.length + g.length - 2) ≠ 0 := by
    rw [hh.2]
    obtain ⟨m, hm⟩ : ∃ m, f.length = m + 1 := ⟨f.length - 1, by omega⟩
    have e : conv f g (f.length + g.length - 2) = cvn f g m (f.length + g.length - 2) + co f m * sh g m (f.length + g.length - 2) := by
      unfold conv
      rw [hm]; rfl
    rw [e, cvn_top f g m _ (by omega), Int.zero_add, show f.length + g.length - 2 = m + (g.length - 1) by omega, sh_add]
    have t1 := OF.top hf
    have t2 := OG.top hg
    rw [hm, Nat.add_sub_cancel] at t1
    exact pr_mul OF.pr t1.1 t1.2 t2.1 t2.2
  have h3 := tlen_gt_of h2
  rw [hh.1.tlen] at h3
  omega
theorem mul_nil {p : Int} {f g h : List Int} (hh : IsPol p (conv f g) h) (h0 : f.length = 0 ∨ g.length = 0) : h.length = 0 := by
  have : h.length ≤ 0 := hh.len fun k _ => by
    rcases h0 with h | h
    · rw [List.eq_nil_of_length_eq_zero h]; exact Int.zero_emod p
    · rw [List.eq_nil_of_length_eq_zero h, conv_nil_r]; exact Int.zero_emod p
  omega
theorem sh_zero (g : List Int) (k : Nat) : sh g 0 k = co g k := by unfold sh; rw [if_pos (Nat.zero_le _)]; rfl
theorem add_same {p : Int} {f g h h2 : List Int} (h1 : IsPol p (fun k => co f k + co g k) h) (h3 : IsPol p (fun k => co f k + 1 * sh g 0 k) h2) : h = h2 :=
  h1.uniq h3 fun k => by rw [sh_zero, Int.one_mul]
theorem quo_len {p inv : Int} {f g q : List Int} (ht : Trm q) (hq : ∀ k, co q k = quo p inv g f k) : q.length ≤ KOf f g := by
  rw [← ht.tlen]
  exact tlen_le_of fun k hk => by rw [hq]; unfold quo; rw [if_neg (by omega)]
theorem div_same {p inv : Int} {f g q r h h2 : List Int} (D : DivOk p inv g f) (hft : Trm f) (hq : Trm q ∧ ∀ k, co q k = quo p inv g f k) (hr : Trm r ∧ ∀ k, co r k = rdn p inv g (co f) (KOf f g) (KOf f g) k)
    (h1 : IsPol p (conv q g) h) (h3 : IsPol p (fun k => co h k + 1 * sh r 0 k) h2) : h2 = f := by
  have hp := D.hp
  refine h3.uniq (isPol_self (by omega) D.hf hft) fun k => ?_
  have hl := quo_len hq.1 hq.2
  have hd := div_law D hq.2 (KOf f g) (Nat.le_refl _) k
  rw [Nat.sub_self] at hd
  have e1 : cvn q g (KOf f g) k = conv q g k := by
    have := cvn_out q g k (KOf f g - q.length)
    rwa [show q.length + (KOf f g - q.length) = KOf f g by omega] at this
  rw [e1, show cvn q g 0 k = 0 from rfl, Int.sub_zero] at hd
  rw [sh_zero, Int.one_mul, h1.2, hr.2, Int.emod_add_emod, hd]
  exact (D.hf.mod (by omega) k).symm
theorem quo_inF {p inv : Int} {f g q : List Int} (D : DivOk p inv g f) (hq : ∀ k, co q k = quo p inv g f k) : InF p q := InF.of_co fun k => by
  have hp := D.hp
  rw [hq]
  unfold quo
  split
  · exact ⟨Int.emod_nonneg _ (by omega), Int.emod_lt_of_pos _ (by omega)⟩
  · omega
theorem rem_inF {p inv : Int} {f g r : List Int} (D : DivOk p inv g f) (hr : ∀ k, co r k = rdn p inv g (co f) (KOf f g) (KOf f g) k) : InF p r := InF.of_co fun k => by
  rw [hr]
  exact rdn_bd D _ _ _
end Go.Proofs.Ytgdcmebhopjfaaa
namespace Go.Proofs.Ytgdcmebhopjfaaa

/-- PASCAL's triangle. -/
def ch : Nat → Nat → Nat
  | _, 0 => 1
  | 0, _ + 1 => 0
  | n + 1, k + 1 => ch n k + ch n (k + 1)
theorem ch_zero (n : Nat) : ch n 0 = 1 := by cases n <;> rfl
theorem ch_succ (n k : Nat) : ch (n + 1) (k + 1) = ch n k + ch n (k + 1) := rfl
theorem ch_big : ∀ (n k : Nat), n < k → ch n k = 0 := by
  intro n
  induction n with
  | zero => intro k h; cases k with
            | zero => omega
            | succ k => rfl
  | succ n ih => intro k h; cases k with
                 | zero => omega
                 | succ k => rw [ch_succ, ih k (by omega), ih (k + 1) (by omega)]
theorem ch_self (n : Nat) : ch n n = 1 := by
  induction n with
  | zero => rfl
  | succ n ih => rw [ch_succ, ih, ch_big n (n + 1) (by omega)]
theorem ch_step : ∀ (n k : Nat), ch n (k + 1) * (k + 1) = ch n k * (n - k) := by
  intro n
  induction n with
  | zero => intro k; show 0 * (k + 1) = ch 0 k * (0 - k); rw [Nat.zero_sub, Nat.mul_zero, Nat.zero_mul]
  | succ n ih =>
    intro k
    cases k with
    | zero =>
      have h := ih 0
      rw [ch_zero] at h ⊢
      rw [ch_succ, ch_zero]
      simp only [Nat.zero_add, Nat.mul_one, Nat.sub_zero, Nat.one_mul] at h ⊢
      omega
    | succ k =>
      have h1 := ih (k + 1)
      have h2 := ih k
      rw [ch_succ n (k + 1), ch_succ n k, Nat.add_mul, Nat.add_mul, h1]
      rcases Nat.lt_or_ge n (k + 1) with h | h
      · rw [ch_big n (k + 1) h, show n + 1 - (k + 1) = 0 by omega]
        simp only [Nat.zero_mul, Nat.zero_add, Nat.mul_zero, Nat.add_zero]
      · obtain ⟨d, hd⟩ := Nat.exists_eq_add_of_le h
        rw [show n - (k + 1) = d by omega, show n + 1 - (k + 1) = d + 1 by omega]
        rw [show n - k = d + 1 by omega] at h2
        rw [← h2, ← Nat.mul_add, ← Nat.mul_add]
        congr 1
        omega
theorem ch_sym : ∀ (n k : Nat), k ≤ n → ch n k = ch n (n - k) := by
  intro n
  induction n with
  | zero => intro k h; obtain rfl : k = 0 := by omega
            rfl
  | succ n ih =>
    intro k h
    cases k with
    | zero => rw [ch_zero, Nat.sub_zero, ch_self]
    | succ k =>
      by_cases he : k = n
      · subst he; rw [ch_self, Nat.sub_self, ch_zero]
      · have e : n + 1 - (k + 1) = (n - (k + 1)) + 1 := by omega
        rw [e, ch_succ, ch_succ, ih k (by omega), ih (k + 1) (by omega), show n - k = n - (k + 1) + 1 by omega, Nat.add_comm]
theorem ch_div (n k : Nat) : ch n k * (n - k) / (k + 1) = ch n (k + 1) := by
  rw [← ch_step, Nat.mul_div_cancel _ (by omega)]
/-- The rows, one out of the other. -/
def nextRow : List Nat → List Nat
  | [] => []
  | [_] => []
  | a :: b :: l => (a + b) :: nextRow (b :: l)
def chRow (n : Nat) : List Nat := (List.range (n + 1)).map (ch n)
def rows : Nat → List Nat
  | 0 => [1]
  | n + 1 => 1 :: (nextRow (rows n) ++ [1])
theorem nextRow_map (n a m : Nat) : nextRow ((List.range' a (m + 1)).map (ch n)) = (List.range' a m).map fun k => ch (n + 1) (k + 1) := by
  induction m generalizing a with
  | zero => rfl
  | succ m ih =>
    have e : List.range' a (m + 1 + 1) = a :: (a + 1) :: List.range' (a + 2) m := by simp [List.range'_succ]
    have e2 : List.range' (a + 1) (m + 1) = (a + 1) :: List.range' (a + 2) m := by simp [List.range'_succ]
    have h := ih (a + 1)
    rw [e2] at h
    rw [e]
    simp only [List.map_cons, nextRow] at h ⊢
    rw [h, List.range'_succ]
    simp only [List.map_cons]
    congr 1
theorem rows_eq (n : Nat) : rows n = chRow n := by
  induction n with
  | zero => rfl
  | succ n ih =>
    simp only [rows]
    rw [ih]
    unfold chRow
    rw [List.range_eq_range', nextRow_map, List.range_eq_range']
    rw [show List.range' 0 (n + 1 + 1) = 0 :: List.range' 1 (n + 1) from List.range'_succ .., List.map_cons, ch_zero]
    congr 1
    have : List.range' 1 (n + 1) = List.range' 1 n ++ [n + 1] := by rw [List.range'_concat]; simp [Nat.add_comm]
    rw [this, List.map_append]
    congr 1
    · apply List.ext_getElem?
      intro k
      simp only [List.getElem?_map]
      by_cases hk : k < n
      · rw [List.getElem?_range' hk, List.getElem?_range' hk]
        simp [Nat.add_comm]
      · rw [List.getElem?_eq_none (by simp; omega), List.getElem?_eq_none (by simp; omega)]
        rfl
    · simp [ch_self]
theorem chRow_le : ∀ n : Fin 61, (rows n.val).all (fun x => decide (x ≤ 118264581564861424)) = true := by decide +kernel
theorem ch_le {n k : Nat} (hn : n ≤ 60) : ch n k ≤ 118264581564861424 := by
  rcases Nat.lt_or_ge n k with h | h
  · rw [ch_big n k h]; omega
  · have h1 := chRow_le ⟨n, by omega⟩
    simp only at h1
    rw [rows_eq, List.all_eq_true] at h1
    have h2 := h1 (ch n k) (List.mem_map.2 ⟨k, List.mem_range.2 (by omega), rfl⟩)
    simpa using h2

/-! ### Digit by digit (LUCAS) -/
def luc (p : Nat) : Nat → Nat → Nat → Nat → Nat
  | 0, _, _, o => o
  | f + 1, n, k, o => if n = 0 ∧ k = 0 then o else luc p f (n / p) (k / p) (o * (ch (n % p) (k % p) % p) % p)
theorem luc_fuel (p : Nat) (hp : 2 ≤ p) : ∀ (f g n k o : Nat), n + k ≤ f → n + k ≤ g → luc p f n k o = luc p g n k o := by
  intro f
  induction f with
  | zero =>
    intro g n k o h1 h2
    obtain rfl : n = 0 := by omega
    obtain rfl : k = 0 := by omega
    cases g with
    | zero => rfl
    | succ g => simp [luc]
  | succ f ih =>
    intro g n k o h1 h2
    cases g with
    | zero =>
      obtain rfl : n = 0 := by omega
      obtain rfl : k = 0 := by omega
      simp [luc]
    | succ g =>
      simp only [luc]
      split
      · rfl
      · rename_i h
        have a1 : n / p ≤ n := Nat.div_le_self _ _
        have a2 : k / p ≤ k := Nat.div_le_self _ _
        have a3 : n / p + k / p < n + k := by
          by_cases hn : n = 0
          · have hk : 0 < k := by omega
            have := Nat.div_lt_self hk (by omega : 1 < p)
            omega
          · have := Nat.div_lt_self (show 0 < n by omega) (by omega : 1 < p)
            omega
        exact ih g _ _ _ (by omega) (by omega)
def chMod (n k p : Nat) : Nat := luc p (n + k) n k 1
theorem luc_step {p f n k o : Nat} (h : ¬ (n = 0 ∧ k = 0)) : luc p (f + 1) n k o = luc p f (n / p) (k / p) (o * (ch (n % p) (k % p) % p) % p) := by simp only [luc]; rw [if_neg h]
theorem luc_done (p f o : Nat) : luc p f 0 0 o = o := by cases f <;> simp [luc]
/-- The product's road: what has been multiplied so far. -/
theorem small_step {n i p inv out : Nat} (hi : inv * (i + 1) % p = 1 % p) (ho : out = ch n i % p) : out * (n - i) % p * inv % p = ch n (i + 1) % p := by
  subst ho
  have h1 : ch n i % p * (n - i) % p * inv % p = ch n i * (n - i) * inv % p := by
    have h2 : ch n i % p * (n - i) % p = ch n i * (n - i) % p := by rw [Nat.mod_mul_mod]
    rw [h2, Nat.mod_mul_mod]
  rw [h1, ← ch_step, Nat.mul_assoc, Nat.mul_comm (i + 1) inv, Nat.mul_mod, hi, ← Nat.mul_mod, Nat.mul_one]
/-- LEGENDRE: how often p divides what n things can be ordered in. -/
def oft (p : Nat) : Nat → Nat → Nat → Nat
  | 0, _, o => o
  | f + 1, n, o => if n = 0 then o else oft p f (n / p) (o + n / p)
theorem oft_fuel (p : Nat) (hp : 2 ≤ p) : ∀ (f g n o : Nat), n ≤ f → n ≤ g → oft p f n o = oft p g n o := by
  intro f
  induction f with
  | zero =>
    intro g n o h1 h2
    obtain rfl : n = 0 := by omega
    cases g <;> simp [oft]
  | succ f ih =>
    intro g n o h1 h2
    cases g with
    | zero =>
      obtain rfl : n = 0 := by omega
      simp [oft]
    | succ g =>
      simp only [oft]
      split
      · rfl
      · rename_i h
        have := Nat.div_lt_self (show 0 < n by omega) (by omega : 1 < p)
        exact ih g _ _ (by omega) (by omega)
def often (n p : Nat) : Nat := oft p n n 0
theorem oft_le (p : Nat) (hp : 2 ≤ p) : ∀ (f n o : Nat), oft p f n o ≤ o + n := by
  intro f
  induction f with
  | zero => intro n o; simp [oft]
  | succ f ih =>
    intro n o
    simp only [oft]
    split
    · omega
    · have h1 := ih (n / p) (o + n / p)
      have h2 : n / p ≤ n / 2 := Nat.div_le_div_left hp (by omega)
      omega
theorem often_le {n p : Nat} (hp : 2 ≤ p) : often n p ≤ n := by have := oft_le p hp n n 0; unfold often; omega
end Go.Proofs.Ytgdcmebhopjfaaa
namespace Go.Proofs.Ytgdcmebhopjfaaa

/-- The value of the first n terms. -/
def evn (z : Int) (c : Nat → Int) : Nat → Int
  | 0 => 0
  | n + 1 => evn z c n + c n * z ^ n
theorem evn_congr (z p : Int) {c d : Nat → Int} : ∀ n, (∀ k, k < n → c k % p = d k % p) → evn z c n % p = evn z d n % p
  | 0, _ => rfl
  | n + 1, h => by
    show (evn z c n + c n * z ^ n) % p = (evn z d n + d n * z ^ n) % p
    rw [Int.add_emod, Int.mul_emod, evn_congr z p n (fun k hk => h k (by omega)), h n (by omega), ← Int.mul_emod, ← Int.add_emod]
theorem evn_add (z : Int) (c d : Nat → Int) : ∀ n, evn z (fun k => c k + d k) n = evn z c n + evn z d n
  | 0 => rfl
  | n + 1 => by
    show evn z (fun k => c k + d k) n + (c n + d n) * z ^ n = (evn z c n + c n * z ^ n) + (evn z d n + d n * z ^ n)
    rw [evn_add z c d n]
    grind
theorem evn_smul (z a : Int) (c : Nat → Int) : ∀ n, evn z (fun k => c k * a) n = evn z c n * a
  | 0 => by simp [evn]
  | n + 1 => by
    show evn z (fun k => c k * a) n + c n * a * z ^ n = (evn z c n + c n * z ^ n) * a
    rw [evn_smul z a c n]
    grind
def shf (c : Nat → Int) (k : Nat) : Int := if 0 < k then c (k - 1) else 0
theorem evn_shf (z : Int) (c : Nat → Int) : ∀ n, evn z (shf c) (n + 1) = z * evn z c n
  | 0 => by simp [evn, shf]
  | n + 1 => by
    show evn z (shf c) (n + 1) + shf c (n + 1) * z ^ (n + 1) = z * (evn z c n + c n * z ^ n)
    rw [evn_shf z c n]
    have : shf c (n + 1) = c n := by unfold shf; rw [if_pos (by omega)]; rfl
    rw [this, Int.pow_succ]
    grind
theorem evn_more (z : Int) (c : Nat → Int) (n : Nat) (h : ∀ k, n ≤ k → c k = 0) : ∀ m, evn z c (n + m) = evn z c n
  | 0 => rfl
  | m + 1 => by
    show evn z c (n + m) + c (n + m) * z ^ (n + m) = _
    rw [evn_more z c n h m, h _ (by omega), Int.zero_mul, Int.add_zero]
def evp (z : Int) (f : List Int) : Int := evn z (co f) f.length
theorem evp_more (z : Int) (f : List Int) {n : Nat} (h : f.length ≤ n) : evn z (co f) n = evp z f := by
  obtain ⟨m, rfl⟩ : ∃ m, n = f.length + m := ⟨n - f.length, by omega⟩
  exact evn_more z (co f) f.length (fun k hk => co_out hk) m
/-- The value from the top down (HORNER). -/
theorem horner (z p : Int) (c : Nat → Int) (n : Nat) : ∀ t, t ≤ n → ∀ h : Int, (evn z c (n - t) + h * z ^ (n - t)) % p = evn z c n % p → t < n →
    (evn z c (n - (t + 1)) + (h * z + c (n - 1 - t)) % p * z ^ (n - (t + 1))) % p = evn z c n % p := by
  intro t ht h he hlt
  obtain ⟨m, hm⟩ : ∃ m, n - t = m + 1 := ⟨n - t - 1, by omega⟩
  have e1 : n - (t + 1) = m := by omega
  have e2 : n - 1 - t = m := by omega
  rw [hm] at he
  rw [e1, e2, ← he]
  show _ = (evn z c m + c m * z ^ m + h * z ^ (m + 1)) % p
  rw [Int.pow_succ]
  have : evn z c m + c m * z ^ m + h * (z ^ m * z) = evn z c m + (h * z + c m) * z ^ m := by grind
  rw [this, Int.add_emod, Int.emod_mul_emod_left, ← Int.add_emod]
  where Int.emod_mul_emod_left {a b p : Int} : (a % p * b) % p = (a * b) % p := by rw [Int.mul_emod, Int.emod_emod_of_dvd _ (Int.dvd_refl p), ← Int.mul_emod]
theorem conv_pair (f : List Int) (a : Int) (k : Nat) : conv f [a, 1] k = co f k * a + shf (co f) k := by
  have hs : ∀ i, sh [a, 1] i k = if k = i then a else if k = i + 1 then 1 else 0 := by
    intro i
    unfold sh
    rcases Nat.lt_trichotomy k i with h | h | h
    · rw [if_neg (by omega), if_neg (by omega), if_neg (by omega)]
    · subst h; rw [if_pos (by omega), if_pos rfl, Nat.sub_self]; rfl
    · rw [if_pos (by omega), if_neg (by omega)]
      by_cases h2 : k = i + 1
      · rw [if_pos h2, h2, show i + 1 - i = 1 by omega]; rfl
      · rw [if_neg h2]; exact co_out (by simp; omega)
  have h : ∀ i, cvn f [a, 1] i k = (if k < i then co f k * a else 0) + (if 0 < k ∧ k - 1 < i then co f (k - 1) else 0) := by
    intro i
    induction i with
    | zero => simp [cvn]
    | succ i ih =>
      unfold cvn
      rw [ih, hs]
      by_cases hk : 0 < k
      · rcases Nat.lt_trichotomy k i with h | h | h
        · have e : k - 1 < i + 1 := by omega
          have e2 : k - 1 < i := by omega
          simp [hk, h, show k < i + 1 by omega, show ¬ k = i by omega, show ¬ k = i + 1 by omega, e, e2]
        · subst h
          have e : k - 1 < k + 1 := by omega
          have e2 : k - 1 < k := by omega
          simp [hk, e, e2]
          omega
        · by_cases h2 : k = i + 1
          · subst h2
            simp [show ¬ i + 1 < i by omega]
          · have e : ¬ k - 1 < i + 1 := by omega
            have e2 : ¬ k - 1 < i := by omega
            simp [h2, e, e2, show ¬ k < i by omega, show ¬ k < i + 1 by omega, show ¬ k = i by omega]
      · obtain rfl : k = 0 := by omega
        cases i with
        | zero => simp
        | succ i => simp
  unfold conv
  rw [h]
  congr 1
  · split
    · rfl
    · rw [co_out (by omega)]; simp
  · unfold shf
    by_cases hk : 0 < k
    · rw [if_pos hk]
      split
      · rfl
      · rw [co_out (by omega)]
    · rw [if_neg hk, if_neg (by omega)]
/-- A factor more: the value is multiplied. -/
theorem evp_pair {z p a : Int} {f h : List Int} (hp : IsPol p (conv f [a, 1]) h) : evp z h % p = evp z f * (a + z) % p := by
  have hl : h.length ≤ f.length + 1 := hp.len fun k hk => by
    rw [conv_pair]
    unfold shf
    rw [if_pos (by omega), co_out (by omega), co_out (by omega)]
    simp
  rw [← evp_more z h hl, evn_congr z p (d := fun k => co f k * a + shf (co f) k) _ (fun k _ => by rw [hp.2, Int.emod_emod_of_dvd _ (Int.dvd_refl p), conv_pair]), evn_add, evn_shf,
    evn_smul, evp_more z f (by omega)]
  unfold evp
  congr 1
  grind
end Go.Proofs.Ytgdcmebhopjfaaa
namespace Go.Proofs.Ytgdcmebhopjfaaa

theorem ch_absorb : ∀ n k : Nat, (k + 1) * ch (n + 1) (k + 1) = (n + 1) * ch n k
  | 0, 0 => rfl
  | 0, k + 1 => by rw [ch_succ, ch_big 0 (k + 1) (by omega), ch_big 0 (k + 1 + 1) (by omega), Nat.add_zero, Nat.mul_zero, Nat.mul_zero]
  | n + 1, 0 => by
    have h := ch_absorb n 0
    rw [ch_succ, ch_zero, Nat.mul_add]
    rw [ch_zero] at h
    omega
  | n + 1, k + 1 => by
    have h1 := ch_absorb n k
    have h2 := ch_absorb n (k + 1)
    rw [ch_succ (n + 1) (k + 1)]
    have e : ch (n + 1) (k + 1) = ch n k + ch n (k + 1) := ch_succ n k
    rw [Nat.mul_add, h2, Nat.add_mul, h1, e]
    grind
theorem binom_thm (a : Int) : ∀ n : Nat, evn a (fun k => (ch n k : Int)) (n + 1) = (1 + a) ^ n
  | 0 => by simp [evn, ch_zero]
  | n + 1 => by
    have e : (fun k => (ch (n + 1) k : Int)) = fun k => (ch n k : Int) + shf (fun k => (ch n k : Int)) k := by
      funext k
      cases k with
      | zero => rw [ch_zero, ch_zero]; rfl
      | succ k =>
        rw [ch_succ]
        unfold shf
        rw [if_pos (by omega), Nat.add_sub_cancel, Int.natCast_add]
        show (ch n k : Int) + _ = _ + (ch n k : Int)
        omega
    rw [e, evn_add, evn_shf, evn_more a _ (n + 1) (fun k hk => by rw [ch_big n k (by omega)]; rfl) 1, binom_thm a n, Int.pow_succ]
    grind
theorem ch_prime {p k : Nat} (hp : IsPr p) (h0 : 0 < k) (h1 : k < p) : p ∣ ch p k := by
  obtain ⟨n, rfl⟩ : ∃ n, p = n + 1 := ⟨p - 1, by omega⟩
  obtain ⟨j, rfl⟩ : ∃ j, k = j + 1 := ⟨k - 1, by omega⟩
  have h := ch_absorb n j
  have hd : (n + 1) ∣ (j + 1) * ch (n + 1) (j + 1) := ⟨ch n j, h⟩
  rcases hp.dvd_mul hd with h2 | h2
  · exact absurd (Nat.le_of_dvd (by omega) h2) (by omega)
  · exact h2
theorem evn_zero (a : Int) : ∀ n, evn a (fun _ => 0) n = 0
  | 0 => rfl
  | n + 1 => by
    show evn a (fun _ => 0) n + 0 * a ^ n = 0
    rw [evn_zero a n]; omega
theorem pow_step {p : Nat} (hp : IsPr p) (a : Int) : (1 + a) ^ p % p = (1 + a ^ p) % p := by
  have h2 := hp.1
  rw [← binom_thm]
  obtain ⟨n, rfl⟩ : ∃ n, p = n + 1 := ⟨p - 1, by omega⟩
  show (evn a (fun k => (ch (n + 1) k : Int)) (n + 1) + (ch (n + 1) (n + 1) : Int) * a ^ (n + 1)) % _ = _
  have e : evn a (fun k => (ch (n + 1) k : Int)) (n + 1) % ((n + 1 : Nat) : Int) = evn a (fun k => if k = 0 then 1 else 0) (n + 1) % ((n + 1 : Nat) : Int) := by
    refine evn_congr a _ _ fun k hk => ?_
    by_cases h : k = 0
    · subst h; rw [ch_zero, if_pos rfl]; rfl
    · obtain ⟨c, hc⟩ := ch_prime hp (by omega) hk
      rw [hc, if_neg h, Int.natCast_mul, Int.mul_emod_right]; rfl
  have e2 : ∀ m, evn a (fun k => if k = 0 then 1 else 0) (m + 1) = 1 := by
    intro m
    induction m with
    | zero => simp [evn]
    | succ m ih =>
      show evn a _ (m + 1) + (if m + 1 = 0 then 1 else 0) * a ^ (m + 1) = 1
      rw [ih, if_neg (by omega)]; omega
  rw [e2] at e
  rw [Int.add_emod, e, ← Int.add_emod, ch_self]
  congr 1
  have : ((1 : Nat) : Int) = 1 := rfl
  rw [this, Int.one_mul]
theorem fermat_nat {p : Nat} (hp : IsPr p) : ∀ a : Nat, (a : Int) ^ p % p = (a : Int) % p
  | 0 => by
    have := hp.1
    obtain ⟨n, rfl⟩ : ∃ n, p = n + 1 := ⟨p - 1, by omega⟩
    show (0 : Int) ^ (n + 1) % _ = _
    rw [Int.pow_succ, Int.mul_zero]; rfl
  | a + 1 => by
    have e : ((a + 1 : Nat) : Int) = 1 + (a : Int) := by omega
    rw [e, pow_step hp, Int.add_emod, fermat_nat hp a, ← Int.add_emod]
theorem fermat {p : Nat} (hp : IsPr p) {a : Int} (h0 : 0 ≤ a) (hn : ¬ (p : Int) ∣ a) : a ^ (p - 2) * a % p = 1 % p := by
  obtain ⟨n, rfl⟩ : ∃ n : Nat, a = n := ⟨a.toNat, by omega⟩
  have h2 := hp.1
  have h := fermat_nat hp n
  have e : (n : Int) ^ p = (n : Int) ^ (p - 2) * n * n := by
    rw [← Int.pow_succ, ← Int.pow_succ]; congr 1; omega
  rw [e] at h
  have h3 : (p : Int) ∣ ((n : Int) ^ (p - 2) * n - 1) * n := by
    have := Int.dvd_of_emod_eq_zero (Int.emod_eq_emod_iff_emod_sub_eq_zero.1 h)
    have e2 : ((n : Int) ^ (p - 2) * n - 1) * n = (n : Int) ^ (p - 2) * n * n - n := by grind
    rw [e2]; exact this
  have h4 : (p : Int) ∣ (n : Int) ^ (p - 2) * n - 1 := by
    rw [← Int.natAbs_dvd_natAbs, Int.natAbs_mul] at h3
    rw [← Int.natAbs_dvd_natAbs]
    rcases IsPr.dvd_mul (by simpa using hp) h3 with h | h
    · exact h
    · exact absurd (Int.natAbs_dvd_natAbs.1 h) hn
  exact Int.emod_eq_emod_iff_emod_sub_eq_zero.2 (Int.emod_eq_zero_of_dvd h4)
end Go.Proofs.Ytgdcmebhopjfaaa
namespace Go.Proofs.Ytgdcmebhopjfaaa

/-- The product of z - X k over the places below m but i. -/
def pz (X : Nat → Int) (i : Nat) (z : Int) : Nat → Int
  | 0 => 1
  | k + 1 => if k = i then pz X i z k else pz X i z k * (z - X k)
theorem pz_zero (X : Nat → Int) {i j : Nat} (hij : j ≠ i) : ∀ m, j < m → pz X i (X j) m = 0
  | 0, h => by omega
  | m + 1, h => by
    unfold pz
    by_cases hm : m = i
    · rw [if_pos hm]
      exact pz_zero X hij m (by omega)
    · rw [if_neg hm]
      by_cases hj : j = m
      · subst hj; rw [Int.sub_self, Int.mul_zero]
      · rw [pz_zero X hij m (by omega), Int.zero_mul]
/-- The sum of V i times the products. -/
def lsum (X V : Nat → Int) (n : Nat) (z : Int) : Nat → Int
  | 0 => 0
  | i + 1 => lsum X V n z i + V i * pz X i z n
theorem lsum_at (X V : Nat → Int) (n : Nat) {j : Nat} (hj : j < n) : ∀ m, lsum X V n (X j) m = if j < m then V j * pz X j (X j) n else 0
  | 0 => rfl
  | m + 1 => by
    unfold lsum
    rw [lsum_at X V n hj m]
    rcases Nat.lt_trichotomy j m with h | h | h
    · rw [if_pos h, if_pos (by omega), pz_zero X (i := m) (j := j) (by omega) n hj, Int.mul_zero, Int.add_zero]
    · subst h; rw [if_neg (by omega), if_pos (by omega), Int.zero_add]
    · rw [if_neg (by omega), if_neg (by omega), pz_zero X (i := m) (j := j) (by omega) n hj, Int.mul_zero, Int.add_zero]
theorem lsum_congr (X V V' : Nat → Int) (n : Nat) (z p : Int) : ∀ m, (∀ i, i < m → V i % p = V' i % p) → lsum X V n z m % p = lsum X V' n z m % p
  | 0, _ => rfl
  | m + 1, h => by
    unfold lsum
    rw [Int.add_emod, Int.mul_emod, lsum_congr X V V' n z p m (fun i hi => h i (by omega)), h m (by omega), ← Int.mul_emod, ← Int.add_emod]
theorem prime_dvd {p a b : Int} (hp : IsPr p.toNat) (h1 : 1 < p) (h : p ∣ a * b) : p ∣ a ∨ p ∣ b := by
  obtain ⟨n, rfl⟩ : ∃ n : Nat, p = n := ⟨p.toNat, by omega⟩
  rw [Int.toNat_natCast] at hp
  rw [← Int.natAbs_dvd_natAbs, Int.natAbs_mul] at h
  rw [← Int.natAbs_dvd_natAbs, ← Int.natAbs_dvd_natAbs]
  exact IsPr.dvd_mul (by simpa using hp) h
theorem pz_ne {p : Int} (hp : IsPr p.toNat) (h1 : 1 < p) (X : Nat → Int) (i : Nat) : ∀ m, (∀ k, k < m → k ≠ i → ¬ p ∣ X i - X k) → ¬ p ∣ pz X i (X i) m
  | 0, _ => by
    show ¬ p ∣ 1
    intro h
    have := Int.le_of_dvd (by omega) h
    omega
  | m + 1, h => by
    unfold pz
    have ih := pz_ne hp h1 X i m (fun k hk => h k (by omega))
    by_cases hm : m = i
    · rw [if_pos hm]; exact ih
    · rw [if_neg hm]
      intro hd
      rcases prime_dvd hp h1 hd with h2 | h2
      · exact ih h2
      · exact h m (by omega) hm h2
theorem diff_ne {p a b : Int} (h1 : 1 < p) (ha : 0 ≤ a) (ha2 : a < p) (hb : 0 ≤ b) (hb2 : b < p) (hne : a ≠ b) : ¬ p ∣ a - b := by
  rintro ⟨c, hc⟩
  have h2 : c = 0 := by
    rcases Int.lt_trichotomy c 0 with h | h | h
    · have : p * c ≤ p * (-1) := Int.mul_le_mul_of_nonneg_left (by omega) (by omega)
      omega
    · exact h
    · have : p * 1 ≤ p * c := Int.mul_le_mul_of_nonneg_left (by omega) (by omega)
      omega
  rw [h2, Int.mul_zero] at hc
  omega
/-- The product of (X i - X k) to the power p - 2. -/
def pw (X : Nat → Int) (i : Nat) (e : Nat) : Nat → Int
  | 0 => 1
  | k + 1 => if k = i then pw X i e k else pw X i e k * (X i - X k) ^ e
theorem pw_pz (X : Nat → Int) (i e : Nat) : ∀ m, pw X i e m = pz X i (X i) m ^ e
  | 0 => by show (1 : Int) = 1 ^ e; rw [Int.one_pow]
  | m + 1 => by
    unfold pw pz
    by_cases hm : m = i
    · rw [if_pos hm, if_pos hm]; exact pw_pz X i e m
    · rw [if_neg hm, if_neg hm, pw_pz X i e m, Int.mul_pow]
theorem fermat' {p : Int} (hp : IsPr p.toNat) (h1 : 1 < p) {a : Int} (hn : ¬ p ∣ a) : a ^ (p.toNat - 2) * a % p = 1 := by
  obtain ⟨n, rfl⟩ : ∃ n : Nat, p = n := ⟨p.toNat, by omega⟩
  rw [Int.toNat_natCast] at hp ⊢
  have h0 : 0 ≤ a % (n : Int) := Int.emod_nonneg _ (by omega)
  have hn2 : ¬ (n : Int) ∣ a % n := fun h => hn ((Int.dvd_iff_emod_eq_zero).2 (by have := Int.emod_eq_zero_of_dvd h; rwa [Int.emod_emod_of_dvd _ (Int.dvd_refl _)] at this))
  have h := fermat hp h0 hn2
  have e1 : (1 : Int) % n = 1 := Int.emod_eq_of_lt (by omega) (by omega)
  rw [e1] at h
  have e2 := mul_pow_emod a a n (n - 2)
  rw [Int.mul_comm] at h
  rw [Int.mul_comm, ← e2]
  exact h
theorem inv_eq {p x y d : Int} (h1 : 1 < p) (hx : x * d % p = 1) (hy : y * d % p = 1) : x % p = y % p := inv_same h1 hx hy
/-- What the document's term is: the value of Through's term. -/
theorem term_same {p : Int} (hp : IsPr p.toNat) (h1 : 1 < p) (X : Nat → Int) (i n : Nat) {inv : Int} (hne : ∀ k, k < n → k ≠ i → ¬ p ∣ X i - X k) (hinv : inv * pz X i (X i) n % p = 1) : pw X i (p.toNat - 2) n % p = inv % p := by
  rw [pw_pz]
  exact inv_same h1 (fermat' hp h1 (pz_ne hp h1 X i n hne)) hinv
end Go.Proofs.Ytgdcmebhopjfaaa
namespace Go.Proofs.Ytgdcmebhopjfaaa
open Go.RowKit Go.Shelf
attribute [local go_sem] Oper.semAt_some

/-- What has come when k rounds are over. -/
def dnto {α : Type} (f : Nat → α) (k : Nat) : List α := (List.range k).map f
theorem dnto_succ {α : Type} (f : Nat → α) (k : Nat) : dnto f (k + 1) = dnto f k ++ [f k] := by simp [dnto, List.range_succ]
theorem dnto_length {α : Type} (f : Nat → α) (k : Nat) : (dnto f k).length = k := by simp [dnto]
theorem dnto_take {α : Type} (f : Nat → α) {k j : Nat} (h : j ≤ k) : (dnto f k).take j = dnto f j := by
  unfold dnto
  rw [← List.map_take, List.take_range, Nat.min_eq_left h]
/-- What a round must keep: what lay below n₀, and the iterator's own box. -/
def KpB (n₀ Bs : Nat) (A B : World) : Prop := Below n₀ A B ∧ B.heap[Bs]? = A.heap[Bs]?
theorem KpB.refl (n₀ Bs : Nat) (A : World) : KpB n₀ Bs A A := ⟨Below.refl _ _, rfl⟩
theorem KpB.trans {n₀ Bs : Nat} {A B C : World} (h : KpB n₀ Bs A B) (h2 : KpB n₀ Bs B C) : KpB n₀ Bs A C := ⟨h.1.trans h2.1, h2.2.trans h.2⟩
variable {α : Type} (enc : α → Array Value) (atk : Nat → α)
set_option maxRecDepth 100000 in
set_option maxHeartbeats 2000000 in
theorem back1_in (F : Fence) (n : Nat) (h8 : F.fn 150) (hro : F.round = none) (hn : 1 ≤ n) (l Bs n₀ b off len cap : Nat) (zs : List Int) (hz : zs.length = len) (hreach : len ≤ 9223372036854775807) (hb : b < n₀) (hat : ∀ k, k < len → enc (atk k) = #[.int .i64 ((len - 1 - k : Nat) : Int), .int .i64 (zs[len - 1 - k]?.getD 0)]) (J Jx : List α → World → Prop)
    (hY : ∀ pre x W, J pre W → pre.length < len → YieldAt F (n - 1) Try.prog l (enc x) W fun e W' =>
      (e = .returned (.bool true) ∧ J (pre ++ [x]) W' ∧ KpB n₀ Bs W W') ∨ (e = .returned (.bool false) ∧ Jx (pre ++ [x]) W'))
    (W : World) (hBs : W.cell? ⟨Bs, 0, none⟩ = some (.slice (some ⟨b, off, none⟩) len cap)) (hc : ∀ j, j < len → W.cell? ⟨b, off + j, none⟩ = some (.int .i64 (zs[j]?.getD 0))) (h0 : J [] W) :
    CallsIn F n Try.prog 150 #[.func (.yield l) #[] #[], .pointer (some ⟨Bs, 0, none⟩)] W fun e W' => (∃ v, e = .returned v) ∧
      ((∃ ys, ys = dnto atk len ∧ J ys W') ∨ (∃ pre, (∃ k, k ≤ len ∧ pre = dnto atk k) ∧ Jx pre W')) := by
  refine callsIn_of_wp Try.func150 rfl h8 ?_ hro
  simp only [Try.ntmps150, List.size_toArray, List.length_cons, List.length_nil, Nat.reduceAdd, Nat.reduceSub, Array.replicate_succ, Array.replicate_zero, List.push_toArray, List.append_toArray, List.nil_append, List.cons_append]
  have w0 : IntKind.i64.wrap ((len : Int) - 1) = (len : Int) - 1 := IntWalk.i64_in _ (by omega)
  gi_wp2
  gi_loopw [3] (fun i wr => ∃ k : Nat, k ≤ len ∧ i = .int .i64 ((len : Int) - 1 - k) ∧ J (dnto atk k) wr ∧ KpB n₀ Bs W wr)
    (fun i _ => (intOf i + 1).toNat)
  case atStart => exact ⟨0, Nat.zero_le _, by simp, h0, KpB.refl _ _ _⟩
  case round =>
    obtain ⟨k, hk, rfl, hJs, hnx⟩ := hrel
    have hBx : wr.cell? ⟨Bs, 0, none⟩ = _ := (World.cell?_of_block hnx.2).trans hBs
    by_cases hlt : k < len
    · obtain ⟨i, hi⟩ : ∃ i, len - 1 - k = i := ⟨_, rfl⟩
      have hi2 : (len : Int) - 1 - k = (i : Int) := by omega
      have hcx : wr.cell? ⟨b, off + i, none⟩ = some (.int .i64 (zs[i]?.getD 0)) := (hnx.1.cell (p := ⟨b, off + i, none⟩) hb).trans (hc i (by omega))
      obtain ⟨x, hx⟩ : ∃ x, zs[i]?.getD 0 = x := ⟨_, rfl⟩
      have hba := hat k hlt
      rw [hi, hx] at hba
      rw [hx] at hcx
      obtain ⟨fn, tmps, assign, body, hy, hR⟩ := hY _ (atk k) wr hJs (by rw [dnto_length]; exact hlt)
      rw [hba] at hy
      rw [hi2]
      have i0 : (0 : Int) ≤ i := by omega
      have i1 : (i : Int) < len := by omega
      have i2 : i < len := by omega
      have w1 : IntKind.i64.wrap ((i : Int) - 1) = (i : Int) - 1 := IntWalk.i64_in _ (by omega)
      gi_wp2
      refine hR.mono ?_
      rintro e W3 (⟨rfl, hJ3, hk3⟩ | ⟨rfl, hJx3⟩)
      · gi_wp2
        go_roundw
        case rel => exact ⟨k + 1, by omega, by congr 1; omega, by rw [dnto_succ]; exact hJ3, hnx.trans hk3⟩
        case measure => simp [intOf]
      · gi_wp2
        refine bodyPost_ret (results_none rfl _ _ _) rfl ?_
        exact ⟨⟨_, rfl⟩, .inr ⟨_, ⟨k + 1, by omega, by rw [dnto_succ]⟩, hJx3⟩⟩
    · obtain rfl : k = len := by omega
      have hneg : ¬ (0 : Int) ≤ (k : Int) - 1 - k := by omega
      gi_wp2
      go_end0
      exact ⟨⟨_, rfl⟩, .inl hJs⟩
set_option maxRecDepth 100000 in
set_option maxHeartbeats 1000000 in
theorem back1_nil_in (F : Fence) (n : Nat) (h8 : F.fn 150) (hro : F.round = none) (l Bs : Nat) (ao : Option Addr) (cap : Nat) (J : List α → World → Prop) (W : World) (hBs : W.cell? ⟨Bs, 0, none⟩ = some (.slice ao 0 cap)) (h0 : J [] W) :
    CallsIn F n Try.prog 150 #[.func (.yield l) #[] #[], .pointer (some ⟨Bs, 0, none⟩)] W fun e W' => (∃ v, e = .returned v) ∧ J [] W' := by
  refine callsIn_of_wp Try.func150 rfl h8 ?_ hro
  simp only [Try.ntmps150, List.size_toArray, List.length_cons, List.length_nil, Nat.reduceAdd, Nat.reduceSub, Array.replicate_succ, Array.replicate_zero, List.push_toArray, List.append_toArray, List.nil_append, List.cons_append]
  gi_wp2
  gi_loopw [3] (fun i wr => i = .int .i64 (-1) ∧ J [] wr) (fun _ _ => 0)
  case atStart => exact ⟨rfl, h0⟩
  case round =>
    obtain ⟨rfl, hJs⟩ := hrel
    gi_wp2
    go_end0
    exact ⟨⟨_, rfl⟩, hJs⟩
set_option maxHeartbeats 1000000 in
theorem back_in (F : Fence) (n : Nat) (h6 : F.fn 88) (hro : F.round = none) (a : Option Addr) (len cap : Nat) (w : World) :
    CallsIn F n Try.prog 88 #[.slice a len cap] w fun e w' => e = .returned (.func (.func 150) #[] #[.pointer (some ⟨w.heap.size, 0, none⟩)]) ∧ w' = w.alloc (.cells #[.slice a len cap] 22) := by
  refine callsIn_of_wp Try.func88 rfl h6 ?_ hro
  simp only [Try.ntmps88, List.size_toArray, List.length_cons, List.length_nil, Nat.reduceAdd, Nat.reduceSub, Array.replicate_succ, Array.replicate_zero, List.push_toArray, List.append_toArray, List.nil_append, List.cons_append]
  gi_wp2
  go_ret
  exact ⟨rfl, rfl⟩
/-- The slice value sv holds the ints zs, in a block below n₀; or there are none. -/
def IntsB (n₀ : Nat) (W : World) (a : Option Addr) (cap : Nat) (zs : List Int) : Prop :=
  zs = [] ∨ ∃ b off, a = some ⟨b, off, none⟩ ∧ b < n₀ ∧ ∀ j, j < zs.length → W.cell? ⟨b, off + j, none⟩ = some (.int .i64 (zs[j]?.getD 0))
theorem IntsB.below {n₀ : Nat} {A B : World} (h : Below n₀ A B) {a : Option Addr} {cap : Nat} {zs : List Int} : IntsB n₀ A a cap zs → IntsB n₀ B a cap zs
  | .inl e => .inl e
  | .inr ⟨b, off, e, hb, hc⟩ => .inr ⟨b, off, e, hb, fun j hj => (h.cell (p := ⟨b, off + j, none⟩) hb).trans (hc j hj)⟩
/-- slices.Backward hands back a value that keeps the iterator's contract. -/
theorem back_stops (F : Fence) (n : Nat) (h8 : F.fn 150) (hro : F.round = none) (hn : 1 ≤ n) (Bs n₀ m : Nat) (a : Option Addr) (cap : Nat) (zs : List Int) (hm : zs.length = m) (hreach : m ≤ 9223372036854775807) (hat : ∀ k, k < m → enc (atk k) = #[.int .i64 ((m - 1 - k : Nat) : Int), .int .i64 (zs[m - 1 - k]?.getD 0)]) (w : World) (hBs : Bs < w.heap.size) (hn₀ : n₀ ≤ w.heap.size)
    (hc : w.cell? ⟨Bs, 0, none⟩ = some (.slice a m cap)) (hI : IntsB n₀ w a cap zs) :
    SeqStopsK F n Try.prog 150 #[.pointer (some ⟨Bs, 0, none⟩)] enc (KpB n₀ Bs) (fun ys => ys = dnto atk m)
      (fun pre => ∃ k, k ≤ m ∧ pre = dnto atk k) m w := fun l J Jx W hW _ _ hY h0 => by
  subst hm
  have hc' := (hW.cell (p := ⟨Bs, 0, none⟩) hBs).trans hc
  rcases hI.below (hW.mono hn₀) with rfl | ⟨b, off, rfl, hb, hcs⟩
  · exact (back1_nil_in F n h8 hro l Bs a cap J W hc' h0).mono fun e W' ⟨he, hj⟩ => ⟨he, .inl ⟨_, rfl, hj⟩⟩
  · exact back1_in enc atk F n h8 hro hn l Bs n₀ b off zs.length cap zs rfl hreach hb hat J Jx hY W hc' hcs h0
end Go.Proofs.Ytgdcmebhopjfaaa
namespace Go.Proofs.Ytgdcmebhopjfaaa
open Go.RowKit Go.Shelf
attribute [local go_sem] Oper.semAt_some

abbrev IdxA := { x : Int × Int // 0 ≤ x.2 ∧ x.2 ≤ 996 }
def encA (x : IdxA) : Array Value := #[.int .i64 x.1.1, .int .i64 x.1.2]
def foldA (z p : Int) (pre : List IdxA) : Int := pre.foldl (fun s x => (s * z + x.1.2) % p) 0
theorem foldA_snoc (z p : Int) (pre : List IdxA) (x : IdxA) : foldA z p (pre ++ [x]) = (foldA z p pre * z + x.1.2) % p := by unfold foldA; rw [List.foldl_append]; rfl
theorem foldA_bd (z : Int) {p : Int} (hp : 2 ≤ p) (hp2 : p ≤ 997) : ∀ pre : List IdxA, 0 ≤ foldA z p pre ∧ foldA z p pre ≤ 996 := by
  intro pre
  rcases List.eq_nil_or_concat pre with rfl | ⟨l, x, rfl⟩
  · exact ⟨Int.le_refl _, by show (0 : Int) ≤ 996; omega⟩
  · rw [List.concat_eq_append, foldA_snoc]
    exact pol_bd (by omega) hp2 _ rfl
def atA {p : Int} (hp : 2 ≤ p) (hp2 : p ≤ 997) (zs : List Int) (h : InF p zs) (k : Nat) : IdxA := ⟨(((zs.length - 1 - k : Nat) : Int), zs[zs.length - 1 - k]?.getD 0), by
  have h2 : 0 ≤ zs[zs.length - 1 - k]?.getD 0 ∧ zs[zs.length - 1 - k]?.getD 0 < p := h.co (by omega) (zs.length - 1 - k)
  show 0 ≤ zs[zs.length - 1 - k]?.getD 0 ∧ zs[zs.length - 1 - k]?.getD 0 ≤ 996
  omega⟩
theorem foldA_dnto (z : Int) {p : Int} (hp : 2 ≤ p) (hp2 : p ≤ 997) (zs : List Int) (h : InF p zs) : ∀ t, t ≤ zs.length → (evn z (co zs) (zs.length - t) + foldA z p (dnto (atA hp hp2 zs h) t) * z ^ (zs.length - t)) % p = evn z (co zs) zs.length % p
  | 0, _ => by
    show (evn z (co zs) (zs.length - 0) + 0 * z ^ (zs.length - 0)) % p = _
    rw [Int.zero_mul, Int.add_zero, Nat.sub_zero]
  | t + 1, ht => by
    have ih := foldA_dnto z hp hp2 zs h t (by omega)
    rw [dnto_succ, foldA_snoc]
    exact horner z p (co zs) zs.length t (by omega) _ ih (by omega)
theorem foldA_all (z : Int) {p : Int} (hp : 2 ≤ p) (hp2 : p ≤ 997) (zs : List Int) (h : InF p zs) : foldA z p (dnto (atA hp hp2 zs h) zs.length) = evp z zs % p := by
  have h1 := foldA_dnto z hp hp2 zs h zs.length (Nat.le_refl _)
  have hb := foldA_bd z hp hp2 (dnto (atA hp hp2 zs h) zs.length)
  rw [Nat.sub_self, Int.pow_zero, Int.mul_one] at h1
  show _ = evn z (co zs) zs.length % p
  rw [← h1]
  show _ = (0 + _) % p
  rw [Int.zero_add]
  rw [show evn z (co zs) zs.length % p = evn z (co zs) zs.length % p from rfl] at h1
  have h3 : 0 + foldA z p (dnto (atA hp hp2 zs h) zs.length) = foldA z p (dnto (atA hp hp2 zs h) zs.length) := Int.zero_add _
  by_cases hlt : foldA z p (dnto (atA hp hp2 zs h) zs.length) < p
  · exact (Int.emod_eq_of_lt hb.1 hlt).symm
  · exfalso
    rcases List.eq_nil_or_concat (dnto (atA hp hp2 zs h) zs.length) with e | ⟨l, x, e⟩
    · rw [e] at hlt
      exact hlt (by show (0 : Int) < p; omega)
    · rw [e, List.concat_eq_append, foldA_snoc] at hlt
      exact hlt (Int.emod_lt_of_pos _ (by omega))
/-- The cells of the call: p, x, and the value. -/
structure StA (H B : Nat) (P X O : Int) (W : World) : Prop where
  p : W.heap[H]? = some (.cells #[.int .i64 P] 3 (0, 0))
  x : W.heap[H + 1]? = some (.cells #[.int .i64 X] 3 (0, 0))
  o : W.heap[B]? = some (.cells #[.int .i64 O] 3 (0, 0))
theorem StA.own {H B : Nat} {P X O : Int} {A C : World} {row : Option Nat} (h : StA H B P X O A) (hg : A.grownBy C row) (hr : ∀ r, row = some r → ∃ o : Obj, A.heap[r]? = some o ∧ o.isCells = false) : StA H B P X O C :=
  ⟨(grownBy_keeps_cells hg hr h.p rfl).trans h.p, (grownBy_keeps_cells hg hr h.x rfl).trans h.x, (grownBy_keeps_cells hg hr h.o rfl).trans h.o⟩
theorem StA.set {H B : Nat} {P X O O' : Int} {W : World} (h : StA H B P X O W) (hB : H + 1 < B) : StA H B P X O' (W.setCell ⟨B, 0, none⟩ (.int .i64 O')) :=
  ⟨by rw [heap_set_far _ (by omega)]; exact h.p, by rw [heap_set_far _ (by omega)]; exact h.x, by rw [heap_set _ h.o]; rfl⟩
theorem two_boxes {w w1 : World} {p x : Int} (hb : Below ((w.alloc (.cells #[.int .i64 p] 3)).alloc (.cells #[.int .i64 x] 3)).heap.size ((w.alloc (.cells #[.int .i64 p] 3)).alloc (.cells #[.int .i64 x] 3)) w1) :
    w1.heap[w.heap.size]? = some (.cells #[.int .i64 p] 3 (0, 0)) ∧ w1.heap[w.heap.size + 1]? = some (.cells #[.int .i64 x] 3 (0, 0)) :=
  ⟨(hb.block _ (by rw [World.size_alloc, World.size_alloc]; omega)).trans (heap_alloc_old _ _ (heap_new' _ _ _ rfl)), (hb.block _ (by rw [World.size_alloc, World.size_alloc]; omega)).trans (heap_new' _ _ _ (by simp))⟩
set_option maxRecDepth 20000 in
set_option maxHeartbeats 1000000 in
theorem poly_At_bad (p : Int) (f : List Int) (x : Int) (ao : Option Addr) (nf ca : Nat) (w : World) (hp : (Lit.int .i64 p).wf = true) (hlf : f.length = nf) (h63 : nf ≤ 9223372036854775807) (hF : Hid (Reads w ao (f.map (Value.int .i64)))) (hc : polE p f ≠ 0) :
    Calls Try.prog 18 #[.int .i64 p, .slice ao nf ca, .int .i64 x] w fun e w' => e = .returned (.tuple #[.int .i64 0, .int .i64 (polE p f)]) ∧ Below w.heap.size w w' := by
  have hb2 : Below w.heap.size w ((w.alloc (.cells #[.int .i64 p] 3)).alloc (.cells #[.int .i64 x] 3)) := ((Below.refl _ w).alloc (Nat.le_refl _) _).alloc (by simp) _
  have HB2 := Lib.hid hb2
  have C1 := Lib.hid (poly_Check p f ao nf ca ((w.alloc (.cells #[.int .i64 p] 3)).alloc (.cells #[.int .i64 x] 3)) hp hlf h63 (hF.out.below hb2))
  obtain ⟨c, hcc⟩ : ∃ c, polE p f = c := ⟨_, rfl⟩
  rw [hcc] at C1 hc ⊢
  have hc0 : (c != 0) = true := by simp [hc]
  clear hp hlf hc hcc hb2
  go_enter Try.func18, Try.ntmps18
  go_wp2_with (go_at_call 86; refine C1.out.mono ?_; rintro e w' ⟨rfl, hb1⟩)
  go_ret2
  exact ⟨rfl, HB2.out.trans (hb1.mono HB2.out.size)⟩
set_option maxRecDepth 100000 in
set_option maxHeartbeats 2000000 in
theorem poly_At (p : Int) (f : List Int) (x : Int) (ao : Option Addr) (nf ca : Nat) (w : World) (hp : (Lit.int .i64 p).wf = true) (hx : (Lit.int .i64 x).wf = true) (hlf : f.length = nf) (hI0 : IntsB w.heap.size w ao ca f) (hF : Hid (Reads w ao (f.map (Value.int .i64)))) (hf : polE p f = 0) :
    Calls Try.prog 18 #[.int .i64 p, .slice ao nf ca, .int .i64 x] w fun e w' => e = .returned (.tuple #[.int .i64 (evp (x % p) f % p), .int .i64 0]) ∧ Below w.heap.size w w' := by
  have OF := Lib.hid (polOk_of hf)
  have p1 := OF.out.p1
  have p2 := OF.out.p2
  have l1 := OF.out.len
  rw [hlf] at l1
  have hxb : -9223372036854775808 ≤ x ∧ x ≤ 9223372036854775807 := by simpa [Lit.wf, IntKind.min, IntKind.max, IntKind.signed, IntKind.bits] using hx
  have hb2 : Below w.heap.size w ((w.alloc (.cells #[.int .i64 p] 3)).alloc (.cells #[.int .i64 x] 3)) := ((Below.refl _ w).alloc (Nat.le_refl _) _).alloc (by simp) _
  have HB2 := Lib.hid hb2
  have C1 := Lib.hid (poly_Check p f ao nf ca ((w.alloc (.cells #[.int .i64 p] 3)).alloc (.cells #[.int .i64 x] 3)) hp hlf (by omega) (hF.out.below hb2))
  rw [hf] at C1
  have C2 := Lib.hid (fun w => rest_Of x p w hxb.1 hxb.2 (by omega) (by omega))
  have z0 : 0 ≤ x % p := Int.emod_nonneg _ (by omega)
  have z1 : x % p < p := Int.emod_lt_of_pos _ (by omega)
  obtain ⟨z, hz⟩ : ∃ z, x % p = z := ⟨_, rfl⟩
  rw [hz] at C2 z0 z1 ⊢
  have HLF := Lib.hid hlf
  clear hp hx hlf hf hb2 hz hxb
  refine (callsIn_wide (n := 3)).1 ?_
  refine callsIn_of_wp_marks Try.func18 rfl trivial ?_ rfl
  simp only [Try.ntmps18, List.size_toArray, List.length_cons, List.length_nil, Nat.reduceAdd, Nat.reduceSub, Array.replicate_succ, Array.replicate_zero, List.push_toArray, List.append_toArray, List.nil_append, List.cons_append]
  gi_wp2_with (first | (refine ⟨trivial, ?_⟩; gi_at_call 86; refine (callsIn_wide.2 C1.out).mono ?_; rintro e w1 ⟨rfl, hb1⟩; obtain ⟨q1, q2⟩ := two_boxes hb1; have k1 : w1.cell? ⟨w.heap.size, 0, none⟩ = some (.int .i64 p) := heap_cell q1 0; have k2 : w1.cell? ⟨w.heap.size + 1, 0, none⟩ = some (.int .i64 x) := heap_cell q2 0) | (refine ⟨trivial, ?_⟩; gi_at_call 87; refine (callsIn_wide.2 (C2.out _)).mono ?_; rintro e w' ⟨rfl, n2, rfl⟩; have k3 : (w1.drewN n2).frozen? ⟨w.heap.size + 1, 0, none⟩ = false := heap_frozen q2 0; have k4 : (w1.drewN n2).cell? ⟨w.heap.size + 1, 0, none⟩ = some (.int .i64 x) := heap_cell q2 0) | (refine ⟨trivial, ?_⟩; gi_at_call 88; refine (back_in Fence.wide 2 trivial rfl _ _ _ _).mono ?_; rintro e w' ⟨rfl, rfl⟩))
  have hb1w : Below w.heap.size w w1 := HB2.out.trans (hb1.mono HB2.out.size)
  have hsz1 : w.heap.size + 2 ≤ w1.heap.size := by have := hb1.size; rw [World.size_alloc, World.size_alloc] at this; omega
  have hA0 : StA w.heap.size w1.heap.size p z 0 ((((w1.drewN n2).setCell ⟨w.heap.size + 1, 0, none⟩ (.int .i64 z)).alloc (.cells #[.int .i64 0] 3)).alloc (.cells #[.slice ao nf ca] 22)) := by
    constructor
    · refine heap_alloc_old _ _ (heap_alloc_old _ _ ?_)
      rw [heap_set_far _ (by omega)]; exact q1
    · refine heap_alloc_old _ _ (heap_alloc_old _ _ ?_)
      rw [heap_set (.int .i64 z) (show (w1.drewN n2).heap[w.heap.size + 1]? = _ from q2)]; rfl
    · exact heap_alloc_old _ _ (heap_new' _ _ _ (by simp))
  have hB0 : Below w.heap.size w ((((w1.drewN n2).setCell ⟨w.heap.size + 1, 0, none⟩ (.int .i64 z)).alloc (.cells #[.int .i64 0] 3)).alloc (.cells #[.slice ao nf ca] 22)) :=
    ((below_set (below_drewN hb1w n2) (by omega) _).alloc (by simp; omega) _).alloc (by simp; omega) _
  have hbox : ((((w1.drewN n2).setCell ⟨w.heap.size + 1, 0, none⟩ (.int .i64 z)).alloc (.cells #[.int .i64 0] 3)).alloc (.cells #[.slice ao nf ca] 22)).cell? ⟨w1.heap.size + 1, 0, none⟩ = some (.slice ao nf ca) := by
    rw [heap_cell (heap_new' _ _ _ (by simp)) 0]; rfl
  obtain ⟨W0, hW0e⟩ : ∃ W0, ((((w1.drewN n2).setCell ⟨w.heap.size + 1, 0, none⟩ (.int .i64 z)).alloc (.cells #[.int .i64 0] 3)).alloc (.cells #[.slice ao nf ca] 22)) = W0 := ⟨_, rfl⟩
  have hsz : W0.heap.size = w1.heap.size + 1 + 1 := by rw [← hW0e]; simp
  rw [hW0e] at hA0 hB0 hbox ⊢
  clear hW0e k1 k2 k3 k4 q1 q2 hb1 hb1w C1 C2 HB2
  obtain ⟨B9, hB9⟩ : ∃ B, w1.heap.size = B := ⟨_, rfl⟩
  rw [hB9] at hsz hsz1 hA0 hbox ⊢
  clear hB9
  have hin := OF.out.inF
  have hat : ∀ k, k < nf → encA (atA p1 p2 f hin k) = #[.int .i64 ((nf - 1 - k : Nat) : Int), .int .i64 (f[nf - 1 - k]?.getD 0)] := by
    intro k _
    show #[Value.int .i64 ((f.length - 1 - k : Nat) : Int), Value.int .i64 (f[f.length - 1 - k]?.getD 0)] = _
    rw [HLF.out]
  have hIW : IntsB w.heap.size W0 ao ca f := hI0.below hB0
  refine wpIn_rangeFunc_ownG (F := Fence.wide) rfl (by omega) (gf := 150) (lb := #[.pointer (some ⟨B9 + 1, 0, none⟩)]) rfl trivial (enters_of Try.func150 (by kernel_rfl) rfl)
    (back_stops encA (atA p1 p2 f hin) Fence.wide 2 trivial rfl (by omega) (B9 + 1) w.heap.size nf ao ca f HLF.out (by omega) hat W0 (by omega) (by omega) hbox hIW) KpB.trans (fun W l o o' h1 h2 h3 _ => ⟨belowK_b (by omega) W l o o' h1 h2 h3 (by assumption), World.putObj_heap_other (by omega)⟩) (Below.refl _ _) (fun _ => rfl)
    (fun pre W => StA w.heap.size B9 p z (foldA z p pre) W ∧ Below w.heap.size w W)
    (fun c pre W => False ∧ Below w.heap.size w W)
    (OwnFrom.and (Own.from (fun s A B row hs hg hr => hs.own hg hr) _) (ownFrom_below (Nat.le_refl _) (by omega)))
    (fun c => OwnFrom.and (Own.from (fun s A B row hs hg hr => hs.elim) _) (ownFrom_below (Nat.le_refl _) (by omega)))
    ⟨hA0, hB0⟩ ?a1 ?assign ?body ?done ?stop
  case assign =>
    intro l x W K hK
    dsimp only [encA]
    gi_wp2
    exact hK
  case body =>
    rintro l pre ⟨⟨xi, x⟩, hx0, hx1⟩ W ⟨hst, hB⟩ hlen
    dsimp only at hx0 hx1 ⊢
    have hfs := foldA_snoc z p pre ⟨(xi, x), hx0, hx1⟩
    have hbd := foldA_bd z p1 p2 pre
    obtain ⟨s, hs⟩ : ∃ s, foldA z p pre = s := ⟨_, rfl⟩
    rw [hs] at hst hbd hfs
    dsimp only at hfs
    have c1 : W.cell? ⟨w.heap.size, 0, none⟩ = some (.int .i64 p) := heap_cell hst.p 0
    have c2 : W.cell? ⟨w.heap.size + 1, 0, none⟩ = some (.int .i64 z) := heap_cell hst.x 0
    have c3 : W.cell? ⟨B9, 0, none⟩ = some (.int .i64 s) := heap_cell hst.o 0
    have f3 := heap_frozen hst.o 0
    have hm1 := mul_bd hbd.1 hbd.2 z0 (show z ≤ 996 by omega)
    obtain ⟨m, hm⟩ : ∃ m, s * z = m := ⟨_, rfl⟩
    rw [hm] at hm1 hfs
    have wm : IntKind.i64.wrap m = m := IntWalk.i64_in _ (by omega)
    have wa : IntKind.i64.wrap (m + x) = m + x := IntWalk.i64_in _ (by omega)
    obtain ⟨r, hr⟩ : ∃ r, (m + x) % p = r := ⟨_, rfl⟩
    have hp0 : ¬ p = 0 := by omega
    have hrt : Int.tmod (m + x) p = r := by rw [Int.tmod_eq_emod_of_nonneg (by omega)]; exact hr
    have hrb := pol_bd (by omega) p2 _ hr.symm
    have wr1 : IntKind.i64.wrap r = r := IntWalk.i64_in _ (by omega)
    rw [hr] at hfs
    have hset := hst.set (O' := r) (by omega)
    clear hr
    gi_wp2
    refine ⟨(KeepsOthers.setCell _ _ _).from _, ⟨below_set (Below.refl _ _) (by omega) _, by rw [heap_set_far _ (by omega)]⟩, by rw [hfs]; exact hset, below_set hB (by omega) _⟩
  case done =>
    rintro D ys W hD rfl ⟨hst, hB⟩ hK
    have hall := foldA_all z p1 p2 f hin
    rw [HLF.out] at hall
    rw [hall] at hst
    have c3 : W.cell? ⟨B9, 0, none⟩ = some (.int .i64 (evp z f % p)) := heap_cell hst.o 0
    gi_wp2
    refine ⟨by simp, .inl ⟨_, _, rfl, run_takeDeferred hK, ?_⟩⟩
    refine ⟨.tuple #[.int .i64 (evp z f % p), .int .i64 0], ?_, rfl, hB.trans (belowK_b (w := w) (Nat.le_refl _) _ D _ _ (by omega) hK rfl rfl)⟩
    simp [results, Try.f18, go_sem]
  case stop =>
    rintro D c pre W hD _ ⟨h, _⟩ hK
    exact h.elim
end Go.Proofs.Ytgdcmebhopjfaaa
