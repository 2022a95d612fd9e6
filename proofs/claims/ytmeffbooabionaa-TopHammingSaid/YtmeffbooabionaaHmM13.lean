/- slices.Clone at bytes. -/
import Derived.Test.YtmeffbooabionaaRows
import Derived.Test.YtmeffbooabionaaRow
import Derived.Test.YtmeffbooabionaaField
import Derived.Test.YtmeffbooabionaaRefField
import Derived.Test.YtmeffbooabionaaHmM10
set_option linter.unusedVariables false
set_option linter.unusedSimpArgs false
namespace Go.Proofs.Ytmeffbooabionaa
open Go.RowKit

theorem u8Info : ElemRow Try.prog 5 (.int .u8 0) 1 1 := elemRow_of (by kernel_rfl) rfl (by omega)
def ClonePost (base : Nat) (xs : List Value) (n : Nat) (w : World) (e : Ending) (w' : World) : Prop :=
  ∃ v, e = .returned v ∧ w'.ownsRow base 5 1 v n xs ∧ Below base w w'
end Go.Proofs.Ytmeffbooabionaa
namespace Go.Proofs.Ytmeffbooabionaa
open Go.RowKit

theorem ginv_zero : ginv 0 = 0 := by unfold ginv; simp [gmul_zero]
theorem field_Inv_any (a : Nat) (w : World) (ha : a < 256) :
    Calls Try.prog 100 #[.int .u8 a] w fun e w' => (∃ E : Int, e = .returned (.tuple #[.int .u8 (ginv a : Nat), .int .i64 E])) ∧ w = w' := by
  by_cases h : a = 0
  · subst h
    refine (field_Inv_zero w).mono ?_
    rintro e w' ⟨rfl, rfl⟩
    exact ⟨⟨5, by rw [ginv_zero]; rfl⟩, rfl⟩
  · refine (field_Inv a w ha h).mono ?_
    rintro e w' ⟨rfl, rfl⟩
    exact ⟨⟨0, rfl⟩, rfl⟩
/-- Elements as bytes, and as ints. -/
def gfV (f : Nat → GF) (j : Nat) : Value := .int .u8 ((f j).val : Int)
def giV (f : Nat → GF) (j : Nat) : Value := .int .i64 ((f j).val : Int)
theorem wrap_u8 (a : Nat) (h : a < 256) : IntKind.u8.wrap (a : Int) = (a : Int) := by
  simp only [IntKind.wrap, IntKind.signed, IntKind.bits]
  simp
  omega
def RowPost (xs ys : Nat → GF) (k n : Nat) (w : World) (e : Ending) (w' : World) : Prop :=
  ∃ g cap, e = .returned (.slice (some ⟨g, 0, none⟩) n cap) ∧ Own w' w.heap.size 5 g n cap (gfV fun j => lag xs ys k (gf j)) ∧ Below w.heap.size w w'
/-- The row while its place x is made of i terms. -/
def rowX (xs ys : Nat → GF) (k x i : Nat) (j : Nat) : GF := if j < x then lag xs ys k (gf j) else if j = x then lagS xs ys k (gf x) i else 0
set_option maxRecDepth 100000 in
set_option maxHeartbeats 4000000 in
theorem reed_Row (xs ys : Nat → GF) (k n : Nat) (ao bo : Option Addr) (cap cap2 : Nat) (w : World) (hk : k ≤ 256) (hn : n ≤ 256) (hx : Hid (Reads w ao (rowF k (giV xs)))) (hy : Hid (Reads w bo (rowF k (gfV ys)))) :
    Calls Try.prog 82 #[.slice ao k cap, .slice bo k cap2, .int .i64 n] w (RowPost xs ys k n w) := by
  go_enter Try.func82, Try.ntmps82
  go_wp2_with (at_make; refine make_own rfl _ _ 67 rfl w.heap.size 5 _ 1 Try.underlying67 u8Info rfl _ _ _ _ n (by rfl) (by rfl) rfl rfl (by omega) (by unfold maxLen; omega) (Nat.le_refl _) ?_; intro w1 hown hg1)
  obtain ⟨g, hgs⟩ : ∃ g, w.heap.size = g := ⟨_, rfl⟩
  have hb1 : Hid (Below w.heap.size w w1) := below_of_grown hg1 (Nat.le_refl _) (by intro k hk; cases hk)
  have hO0 := hown.congr (f' := gfV (rowX xs ys k 0 0)) fun j _ => by
    unfold gfV rowX
    rw [if_neg (by omega)]
    split <;> rfl
  have hO1 : Hid (Own w1 w.heap.size 5 g n n (gfV (rowX xs ys k 0 0))) := by
    have e : Own w1 w.heap.size 5 w.heap.size n n (gfV (rowX xs ys k 0 0)) = Own w1 w.heap.size 5 g n n (gfV (rowX xs ys k 0 0)) := by rw [hgs]
    show Own _ _ _ _ _ _ _
    rw [← e]; exact hO0
  rw [hgs]
  clear hown hg1 hO0 hgs
  go_loopw [20] (fun vx wr => ∃ x : Nat, vx = .int .i64 x ∧ x ≤ n ∧ Hid (Own wr w.heap.size 5 g n n (gfV (rowX xs ys k x 0))) ∧ Hid (Below w.heap.size w wr)) (fun vx _ => n - (intOf vx).toNat)
  case atStart => exact ⟨0, rfl, by omega, hO1, hb1⟩
  case round =>
    obtain ⟨x, rfl, hxn, hO, hb⟩ := hrel
    by_cases hx1 : x < n
    · have hx2 : x < 256 := by omega
      go_wp2_with fail
      go_loopw [25] (fun vi wi => ∃ i : Nat, vi = .int .i64 i ∧ i ≤ k ∧ Hid (Own wi w.heap.size 5 g n n (gfV (rowX xs ys k x i))) ∧ Hid (Below w.heap.size w wi)) (fun vi _ => k - (intOf vi).toNat)
      case atStart => exact ⟨0, rfl, by omega, hO, hb⟩
      case round =>
        obtain ⟨i, rfl, hik, hO2, hb2⟩ := hrel
        by_cases hi1 : i < k
        · obtain ⟨b1, o1, rfl, c1⟩ := (hx.out.below hb2.out) i _ (rowF_get (giV xs) hi1)
          obtain ⟨b2, o2, rfl, c2⟩ := (hy.out.below hb2.out) i _ (rowF_get (gfV ys) hi1)
          obtain ⟨p, hp⟩ : ∃ p, (xs i).val = p := ⟨_, rfl⟩
          have hp1 : p < 256 := by rw [← hp]; exact (xs i).lt
          have hyi : (ys i).val < 256 := (ys i).lt
          unfold giV at c1
          unfold gfV at c2
          rw [hp] at c1
          have HP := Lib.hid hp
          have hX := Lib.hid (hx.out.below hb2.out)
          clear hp
          go_wp2_with fail
          go_loop [11, 36] (fun vt vm => ∃ m : Nat, vm = .int .i64 m ∧ m ≤ k ∧ ∃ t : Nat, vt = .int .u8 t ∧ t < 256 ∧ Hid (t = (lagT xs (ys i) i (gf x) m).val)) (fun _ vm => k - (intOf vm).toNat)
          case atStart => exact ⟨0, rfl, by omega, (ys i).val, rfl, hyi, rfl⟩
          case round =>
            obtain ⟨m, rfl, hmk, t, rfl, ht, hte⟩ := hrel
            by_cases hm1 : m < k
            · obtain ⟨b3, o3, ha3, c3⟩ := hX.out m _ (rowF_get (giV xs) hm1)
              injection ha3 with ha3
              injection ha3 with hb3 ho3
              subst hb3 ho3
              obtain ⟨q, hq⟩ : ∃ q, (xs m).val = q := ⟨_, rfl⟩
              have hq1 : q < 256 := by rw [← hq]; exact (xs m).lt
              unfold giV at c3
              rw [hq] at c3
              by_cases hmi : m = i
              · have e1 : ((m : Int) != (i : Int)) = false := by simp; omega
                have hnew : Hid (t = (lagT xs (ys i) i (gf x) (m + 1)).val) := by
                  show _ = _
                  rw [lagT, if_pos hmi]; exact hte.out
                have HM := Lib.hid hmi
                clear hmi hq
                go_wp2_with fail
                go_round
                case rel => exact ⟨m + 1, by go_num, by omega, t, rfl, ht, hnew⟩
                case measure => simp [intOf]; omega
              · have e1 : ((m : Int) != (i : Int)) = true := by simp; omega
                obtain ⟨pq, hpq⟩ : ∃ pq : Nat, p ^^^ q = pq := ⟨_, rfl⟩
                obtain ⟨xq, hxq⟩ : ∃ xq : Nat, x ^^^ q = xq := ⟨_, rfl⟩
                have hpq1 : pq < 256 := by rw [← hpq]; exact xor_lt256 hp1 hq1
                have hxq1 : xq < 256 := by rw [← hxq]; exact xor_lt256 hx2 hq1
                have e2 : bits .xor .i64 (p : Int) (q : Int) = (pq : Int) := by rw [i64_xor_nat p q (by omega) (by omega), hpq]
                have e3 : bits .xor .i64 (x : Int) (q : Int) = (xq : Int) := by rw [i64_xor_nat x q (by omega) (by omega), hxq]
                have e4 := wrap_u8 pq hpq1
                have e5 := wrap_u8 xq hxq1
                have hv1 := ginv_lt hpq1
                obtain ⟨iv, hiv⟩ : ∃ iv, ginv pq = iv := ⟨_, rfl⟩
                rw [hiv] at hv1
                obtain ⟨pr, hpr⟩ : ∃ pr, gmul xq iv = pr := ⟨_, rfl⟩
                have hpr1 : pr < 256 := by rw [← hpr]; exact gmul_lt hxq1
                obtain ⟨t2, ht2⟩ : ∃ t2, gmul t pr = t2 := ⟨_, rfl⟩
                have ht21 : t2 < 256 := by rw [← ht2]; exact gmul_lt ht
                have hnew : Hid (t2 = (lagT xs (ys i) i (gf x) (m + 1)).val) := by
                  show _ = _
                  rw [lagT, if_neg hmi, GF.mul_val, GF.mul_val, GF.inv_val, GF.sub_val, GF.sub_val, gf_val hx2, hq, HP.out, hpq, hxq, hiv, hpr, ← hte.out, ht2]
                have C1 := Lib.hid (field_Inv_any pq · hpq1)
                have C2 := Lib.hid (field_Mul xq iv · hxq1 hv1)
                have C3 := Lib.hid (field_Mul t pr · ht hpr1)
                rw [hiv] at C1
                rw [hpr] at C2
                rw [ht2] at C3
                clear hmi hq hpq hxq hiv hpr ht2
                go_wp2_with (first | (go_at_call 100; refine (C1.out _).mono ?_; rintro e w' ⟨⟨E, rfl⟩, rfl⟩) | (go_at_call 101; with_reducible refine (C2.out _).mono ?_; rintro e w' ⟨rfl, rfl⟩) | (go_at_call 101; refine (C3.out _).mono ?_; rintro e w' ⟨rfl, rfl⟩))
                go_round
                case rel => exact ⟨m + 1, by go_num, by omega, t2, rfl, ht21, hnew⟩
                case measure => simp [intOf]; omega
            · have hfin : Hid (t = (lagT xs (ys i) i (gf x) k).val) := by
                have : m = k := by omega
                show _ = _
                rw [hte.out, this]
              have c4 := hO2.out.cell hx1
              have f4 := hO2.out.frozen x
              obtain ⟨r, hr⟩ : ∃ r, (rowX xs ys k x i x).val = r := ⟨_, rfl⟩
              have hr1 : r < 256 := by rw [← hr]; exact GF.lt _
              unfold gfV at c4
              rw [hr] at c4
              obtain ⟨r2, hr2⟩ : ∃ r2, r ^^^ t = r2 := ⟨_, rfl⟩
              have e6 : bits .xor .u8 (r : Int) (t : Int) = (r2 : Int) := by rw [u8_xor_nat r t hr1 ht, hr2]
              have st := hO2.out.store x (.int .u8 (r2 : Int))
              have hO3 := Lib.hid (st.1.congr (f' := gfV (rowX xs ys k x (i + 1))) fun j _ => by
                unfold gfV
                by_cases hj : j = x
                · subst hj
                  rw [if_pos rfl, ← hr2, ← hr, hfin.out]
                  unfold rowX
                  rw [if_neg (Nat.lt_irrefl j), if_pos rfl, if_neg (Nat.lt_irrefl j), if_pos rfl]
                  rfl
                · rw [if_neg hj]
                  unfold rowX
                  rw [if_neg hj, if_neg hj])
              have hb3 := Lib.hid (hO2.out.belowStore hb2.out (Nat.le_refl _) x (.int .u8 (r2 : Int)))
              clear st hr hr2
              go_wp2_with fail
              go_roundw
              case rel => exact ⟨i + 1, by go_num, by omega, hO3, hb3⟩
              case measure => simp [intOf]; omega
        · have hO3 := Lib.hid (hO2.out.congr (f' := gfV (rowX xs ys k (x + 1) 0)) fun j _ => by
            have hik2 : i = k := by omega
            unfold gfV rowX
            by_cases hj : j < x
            · rw [if_pos hj, if_pos (by omega)]
            · rw [if_neg hj]
              by_cases hj2 : j = x
              · subst hj2
                rw [if_pos rfl, if_pos (by omega), hik2]; rfl
              · rw [if_neg hj2, if_neg (by omega)]
                split <;> rfl)
          go_wp2_with fail
          go_roundw
          case rel => exact ⟨x + 1, by go_num, by omega, hO3, hb2⟩
          case measure => simp [intOf]; omega
    · have hfin : Hid (RowPost xs ys k n w (.returned (.slice (some ⟨g, 0, none⟩) n n)) wr) := ⟨g, n, rfl, hO.out.congr fun j hj => by
        unfold gfV rowX
        rw [if_pos (by omega)], hb.out⟩
      go_wp2_with fail
      go_ret
      exact hfin.out
end Go.Proofs.Ytmeffbooabionaa
