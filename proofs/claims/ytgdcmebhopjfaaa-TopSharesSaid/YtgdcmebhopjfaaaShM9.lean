/- Rows through points over the field of 256 elements: which of the points are taken does not matter, where all fit. -/
import Derived.Test.YtgdcmebhopjfaaaInterp
import Derived.Test.YtgdcmebhopjfaaaRows
import Derived.Test.YtgdcmebhopjfaaaShM0
import Derived.Test.YtgdcmebhopjfaaaShM6
import Derived.Test.YtgdcmebhopjfaaaShM3
import Derived.Test.YtgdcmebhopjfaaaShM2
import Derived.Test.YtgdcmebhopjfaaaShM5
import Derived.Test.YtgdcmebhopjfaaaShM4
namespace Go.Proofs.Ytgdcmebhopjfaaa

/-- Points: places below 256, no two the same. -/
def PtsG (L : List (Nat × Nat)) : Prop := (∀ a ∈ L, a.1 < 256 ∧ a.2 < 256) ∧ (L.map Prod.fst).Nodup
def ptX (L : List (Nat × Nat)) (j : Nat) : GF := gf (L.getD j (0, 0)).1
def ptY (L : List (Nat × Nat)) (j : Nat) : GF := gf (L.getD j (0, 0)).2
/-- The row's value through some points. -/
def rowV (L : List (Nat × Nat)) (x : GF) : GF := lag (ptX L) (ptY L) L.length x
theorem ptX_ne {L : List (Nat × Nat)} (h : PtsG L) : ∀ i j, i < L.length → j < L.length → i ≠ j → ptX L i ≠ ptX L j := by
  intro i j hi hj hij he
  unfold ptX at he
  rw [List.getD_eq_getElem?_getD, List.getD_eq_getElem?_getD, List.getElem?_eq_getElem hi, List.getElem?_eq_getElem hj] at he
  simp only [Option.getD_some] at he
  have h1 := gf_inj (h.1 _ (List.getElem_mem hi)).1 (h.1 _ (List.getElem_mem hj)).1 he
  have h2 := h.2
  rw [List.nodup_iff_pairwise_ne, List.pairwise_map, List.pairwise_iff_getElem] at h2
  rcases Nat.lt_or_ge i j with h3 | h3
  · exact h2 i j hi hj h3 h1
  · exact h2 j i hj hi (by omega) h1.symm
theorem rowV_poly (L : List (Nat × Nat)) : PolyF L.length (rowV L) := lag_poly gfld _ _ _
theorem rowV_at {L : List (Nat × Nat)} (h : PtsG L) {a : Nat × Nat} (ha : a ∈ L) : rowV L (gf a.1) = gf a.2 := by
  obtain ⟨j, hj, he⟩ := List.mem_iff_getElem.1 ha
  have h1 := lag_at gfld (ptX L) (ptY L) hj (ptX_ne h)
  unfold ptX ptY at h1
  rw [List.getD_eq_getElem?_getD, List.getElem?_eq_getElem hj] at h1
  simp only [Option.getD_some] at h1
  rw [he] at h1
  exact h1
/-- A polynomial of so many numbers that fits some points is their row. -/
theorem rowV_uniq {L : List (Nat × Nat)} (h : PtsG L) {f : GF → GF} (hf : PolyF L.length f) (hL : ∀ a ∈ L, f (gf a.1) = gf a.2) (x : GF) : rowV L x = f x := by
  refine lag_uniq gfld hf (ptX L) (ptY L) (ptX_ne h) (fun j hj => ?_) x
  unfold ptX ptY
  rw [List.getD_eq_getElem?_getD, List.getElem?_eq_getElem hj]
  simp only [Option.getD_some]
  exact hL _ (List.getElem_mem hj)
def fits (L P : List (Nat × Nat)) : Prop := ∀ a ∈ P, rowV L (gf a.1) = gf a.2
theorem fits_swap {L M P : List (Nat × Nat)} (hM : PtsG M) (hl : M.length = L.length) (hMP : ∀ a ∈ M, a ∈ P) (h : fits L P) : (∀ x, rowV M x = rowV L x) ∧ fits M P := by
  have h1 : ∀ x, rowV M x = rowV L x := rowV_uniq hM (by rw [hl]; exact rowV_poly L) fun a ha => h a (hMP a ha)
  exact ⟨h1, fun a ha => by rw [h1]; exact h a ha⟩
end Go.Proofs.Ytgdcmebhopjfaaa
namespace Go.Proofs.Ytgdcmebhopjfaaa
open Go.RowKit

theorem u8Info : ElemRow Try.prog 5 (.int .u8 0) 1 1 := elemRow_of (by kernel_rfl) rfl (by omega)
def ClonePost (base : Nat) (xs : List Value) (n : Nat) (w : World) (e : Ending) (w' : World) : Prop :=
  ∃ v, e = .returned v ∧ w'.ownsRow base 5 1 v n xs ∧ Below base w w'
set_option maxHeartbeats 1000000 in
set_option maxRecDepth 20000 in
theorem clone_u8 (n : Nat) (xs : List Value) (ao : Option Addr) (cap base : Nat) (w : World) (hn : n ≤ 1000000000) (hl : xs.length = n) (hnone : ao = none → n = 0 ∧ cap = 0) (hR : Hid (Reads w ao xs)) (h1 : Hid (∀ u ∈ xs, u.oneCell' = true)) (hb : base ≤ w.heap.size) :
    Calls Try.prog 45 #[.slice ao n cap] w (ClonePost base xs n w) := by
  have HL : Hid (xs.length = n * 1) := by show _ = _; omega
  have HN := Lib.hid hnone
  cases ao with
  | none =>
    obtain ⟨rfl, rfl⟩ := hnone rfl
    have hx : Hid (xs = []) := List.eq_nil_of_length_eq_zero hl
    have heq := Lib.run_eql_slice_nil (P := Try.prog) w 59 5 none 0 0 0 0 Try.underlying59
    clear hl hnone
    go_enter Try.func45, Try.ntmps45
    go_wp2_with fail
    go_ret
    refine ⟨_, rfl, ?_, Below.refl _ _⟩
    rw [hx.out]; exact World.ownsRow_nil _ _ _ _
  | some a =>
    have heq := Lib.run_eql_slice_nil (P := Try.prog) w 59 5 (some a) n cap 0 0 Try.underlying59
    clear hl hnone
    have hown : Hid ((w.alloc (.cells #[] 5)).ownsRow base 5 1 (.slice (some ⟨w.heap.size, 0, none⟩) 0 0) 0 []) := own_lit w base 5 [] hb (by unfold maxLen; simp)
    have hR2 : Hid (Reads (w.alloc (.cells #[] 5)) (some a) xs) := hR.out.alloc _
    have hbel : Hid (Below base w (w.alloc (.cells #[] 5))) := (Below.refl _ _).alloc hb _
    go_enter Try.func45, Try.ntmps45
    go_wp2_with (at_builtin; go_must (refine app_all rfl (.tmp 5) (.tmp 6) _ rfl base 5 _ 1 1 Try.underlying59 u8Info _ 0 [] (by rfl) hown.out (some a) n cap xs (by rfl) (fun h => by cases h) HL.out hR2.out h1.out (by unfold maxLen; omega) (by omega) (Nat.le_trans hb hbel.out.size) ?_); intro v2 w2 hown2 hgr2 hb2)
    go_ret
    refine ⟨v2, rfl, ?_, hbel.out.trans hb2⟩
    simpa using hown2
end Go.Proofs.Ytgdcmebhopjfaaa
namespace Go.Proofs.Ytgdcmebhopjfaaa
open Go.RowKit

theorem ginv_zero : ginv 0 = 0 := by unfold ginv; simp [gmul_zero]
theorem field_Inv_any (a : Nat) (w : World) (ha : a < 256) :
    Calls Try.prog 101 #[.int .u8 a] w fun e w' => (∃ E : Int, e = .returned (.tuple #[.int .u8 (ginv a : Nat), .int .i64 E])) ∧ w = w' := by
  by_cases h : a = 0
  · subst h
    refine (field_Inv_zero w).mono ?_
    rintro e w' ⟨rfl, rfl⟩
    exact ⟨⟨5, by rw [ginv_zero]; rfl⟩, rfl⟩
  · refine (field_Inv a w ha h).mono ?_
    rintro e w' ⟨rfl, rfl⟩
    exact ⟨⟨0, rfl⟩, rfl⟩
/-- Elements as bytes, and as ints. -/
def gfV (f : Nat → GF) (j : Nat) : Value := .int .u8 ((f j).val : Int)
def giV (f : Nat → GF) (j : Nat) : Value := .int .i64 ((f j).val : Int)
theorem wrap_u8 (a : Nat) (h : a < 256) : IntKind.u8.wrap (a : Int) = (a : Int) := by
  simp only [IntKind.wrap, IntKind.signed, IntKind.bits]
  simp
  omega
def RowPost (xs ys : Nat → GF) (k n : Nat) (w : World) (e : Ending) (w' : World) : Prop :=
  ∃ g cap, e = .returned (.slice (some ⟨g, 0, none⟩) n cap) ∧ Own w' w.heap.size 5 g n cap (gfV fun j => lag xs ys k (gf j)) ∧ Below w.heap.size w w'
/-- The row while its place x is made of i terms. -/
def rowX (xs ys : Nat → GF) (k x i : Nat) (j : Nat) : GF := if j < x then lag xs ys k (gf j) else if j = x then lagS xs ys k (gf x) i else 0
set_option maxRecDepth 100000 in
set_option maxHeartbeats 4000000 in
theorem reed_Row (xs ys : Nat → GF) (k n : Nat) (ao bo : Option Addr) (cap cap2 : Nat) (w : World) (hk : k ≤ 256) (hn : n ≤ 256) (hx : Hid (Reads w ao (rowF k (giV xs)))) (hy : Hid (Reads w bo (rowF k (gfV ys)))) :
    Calls Try.prog 121 #[.slice ao k cap, .slice bo k cap2, .int .i64 n] w (RowPost xs ys k n w) := by
  go_enter Try.func121, Try.ntmps121
  go_wp2_with (at_make; refine make_own rfl _ _ 59 rfl w.heap.size 5 _ 1 Try.underlying59 u8Info rfl _ _ _ _ n (by rfl) (by rfl) rfl rfl (by omega) (by unfold maxLen; omega) (Nat.le_refl _) ?_; intro w1 hown hg1)
  obtain ⟨g, hgs⟩ : ∃ g, w.heap.size = g := ⟨_, rfl⟩
  have hb1 : Hid (Below w.heap.size w w1) := below_of_grown hg1 (Nat.le_refl _) (by intro k hk; cases hk)
  have hO0 := hown.congr (f' := gfV (rowX xs ys k 0 0)) fun j _ => by
    unfold gfV rowX
    rw [if_neg (by omega)]
    split <;> rfl
  have hO1 : Hid (Own w1 w.heap.size 5 g n n (gfV (rowX xs ys k 0 0))) := by
    have e : Own w1 w.heap.size 5 w.heap.size n n (gfV (rowX xs ys k 0 0)) = Own w1 w.heap.size 5 g n n (gfV (rowX xs ys k 0 0)) := by rw [hgs]
    show Own _ _ _ _ _ _ _
    rw [← e]; exact hO0
  rw [hgs]
  clear hown hg1 hO0 hgs
  go_loopw [20] (fun vx wr => ∃ x : Nat, vx = .int .i64 x ∧ x ≤ n ∧ Hid (Own wr w.heap.size 5 g n n (gfV (rowX xs ys k x 0))) ∧ Hid (Below w.heap.size w wr)) (fun vx _ => n - (intOf vx).toNat)
  case atStart => exact ⟨0, rfl, by omega, hO1, hb1⟩
  case round =>
    obtain ⟨x, rfl, hxn, hO, hb⟩ := hrel
    by_cases hx1 : x < n
    · have hx2 : x < 256 := by omega
      go_wp2_with fail
      go_loopw [25] (fun vi wi => ∃ i : Nat, vi = .int .i64 i ∧ i ≤ k ∧ Hid (Own wi w.heap.size 5 g n n (gfV (rowX xs ys k x i))) ∧ Hid (Below w.heap.size w wi)) (fun vi _ => k - (intOf vi).toNat)
      case atStart => exact ⟨0, rfl, by omega, hO, hb⟩
      case round =>
        obtain ⟨i, rfl, hik, hO2, hb2⟩ := hrel
        by_cases hi1 : i < k
        · obtain ⟨b1, o1, rfl, c1⟩ := (hx.out.below hb2.out) i _ (rowF_get (giV xs) hi1)
          obtain ⟨b2, o2, rfl, c2⟩ := (hy.out.below hb2.out) i _ (rowF_get (gfV ys) hi1)
          obtain ⟨p, hp⟩ : ∃ p, (xs i).val = p := ⟨_, rfl⟩
          have hp1 : p < 256 := by rw [← hp]; exact (xs i).lt
          have hyi : (ys i).val < 256 := (ys i).lt
          unfold giV at c1
          unfold gfV at c2
          rw [hp] at c1
          have HP := Lib.hid hp
          have hX := Lib.hid (hx.out.below hb2.out)
          clear hp
          go_wp2_with fail
          go_loop [11, 36] (fun vt vm => ∃ m : Nat, vm = .int .i64 m ∧ m ≤ k ∧ ∃ t : Nat, vt = .int .u8 t ∧ t < 256 ∧ Hid (t = (lagT xs (ys i) i (gf x) m).val)) (fun _ vm => k - (intOf vm).toNat)
          case atStart => exact ⟨0, rfl, by omega, (ys i).val, rfl, hyi, rfl⟩
          case round =>
            obtain ⟨m, rfl, hmk, t, rfl, ht, hte⟩ := hrel
            by_cases hm1 : m < k
            · obtain ⟨b3, o3, ha3, c3⟩ := hX.out m _ (rowF_get (giV xs) hm1)
              injection ha3 with ha3
              injection ha3 with hb3 ho3
              subst hb3 ho3
              obtain ⟨q, hq⟩ : ∃ q, (xs m).val = q := ⟨_, rfl⟩
              have hq1 : q < 256 := by rw [← hq]; exact (xs m).lt
              unfold giV at c3
              rw [hq] at c3
              by_cases hmi : m = i
              · have e1 : ((m : Int) != (i : Int)) = false := by simp; omega
                have hnew : Hid (t = (lagT xs (ys i) i (gf x) (m + 1)).val) := by
                  show _ = _
                  rw [lagT, if_pos hmi]; exact hte.out
                have HM := Lib.hid hmi
                clear hmi hq
                go_wp2_with fail
                go_round
                case rel => exact ⟨m + 1, by go_num, by omega, t, rfl, ht, hnew⟩
                case measure => simp [intOf]; omega
              · have e1 : ((m : Int) != (i : Int)) = true := by simp; omega
                obtain ⟨pq, hpq⟩ : ∃ pq : Nat, p ^^^ q = pq := ⟨_, rfl⟩
                obtain ⟨xq, hxq⟩ : ∃ xq : Nat, x ^^^ q = xq := ⟨_, rfl⟩
                have hpq1 : pq < 256 := by rw [← hpq]; exact xor_lt256 hp1 hq1
                have hxq1 : xq < 256 := by rw [← hxq]; exact xor_lt256 hx2 hq1
                have e2 : bits .xor .i64 (p : Int) (q : Int) = (pq : Int) := by rw [i64_xor_nat p q (by omega) (by omega), hpq]
                have e3 : bits .xor .i64 (x : Int) (q : Int) = (xq : Int) := by rw [i64_xor_nat x q (by omega) (by omega), hxq]
                have e4 := wrap_u8 pq hpq1
                have e5 := wrap_u8 xq hxq1
                have hv1 := ginv_lt hpq1
                obtain ⟨iv, hiv⟩ : ∃ iv, ginv pq = iv := ⟨_, rfl⟩
                rw [hiv] at hv1
                obtain ⟨pr, hpr⟩ : ∃ pr, gmul xq iv = pr := ⟨_, rfl⟩
                have hpr1 : pr < 256 := by rw [← hpr]; exact gmul_lt hxq1
                obtain ⟨t2, ht2⟩ : ∃ t2, gmul t pr = t2 := ⟨_, rfl⟩
                have ht21 : t2 < 256 := by rw [← ht2]; exact gmul_lt ht
                have hnew : Hid (t2 = (lagT xs (ys i) i (gf x) (m + 1)).val) := by
                  show _ = _
                  rw [lagT, if_neg hmi, GF.mul_val, GF.mul_val, GF.inv_val, GF.sub_val, GF.sub_val, gf_val hx2, hq, HP.out, hpq, hxq, hiv, hpr, ← hte.out, ht2]
                have C1 := Lib.hid (field_Inv_any pq · hpq1)
                have C2 := Lib.hid (field_Mul xq iv · hxq1 hv1)
                have C3 := Lib.hid (field_Mul t pr · ht hpr1)
                rw [hiv] at C1
                rw [hpr] at C2
                rw [ht2] at C3
                clear hmi hq hpq hxq hiv hpr ht2
                go_wp2_with (first | (go_at_call 101; refine (C1.out _).mono ?_; rintro e w' ⟨⟨E, rfl⟩, rfl⟩) | (go_at_call 99; with_reducible refine (C2.out _).mono ?_; rintro e w' ⟨rfl, rfl⟩) | (go_at_call 99; refine (C3.out _).mono ?_; rintro e w' ⟨rfl, rfl⟩))
                go_round
                case rel => exact ⟨m + 1, by go_num, by omega, t2, rfl, ht21, hnew⟩
                case measure => simp [intOf]; omega
            · have hfin : Hid (t = (lagT xs (ys i) i (gf x) k).val) := by
                have : m = k := by omega
                show _ = _
                rw [hte.out, this]
              have c4 := hO2.out.cell hx1
              have f4 := hO2.out.frozen x
              obtain ⟨r, hr⟩ : ∃ r, (rowX xs ys k x i x).val = r := ⟨_, rfl⟩
              have hr1 : r < 256 := by rw [← hr]; exact GF.lt _
              unfold gfV at c4
              rw [hr] at c4
              obtain ⟨r2, hr2⟩ : ∃ r2, r ^^^ t = r2 := ⟨_, rfl⟩
              have e6 : bits .xor .u8 (r : Int) (t : Int) = (r2 : Int) := by rw [u8_xor_nat r t hr1 ht, hr2]
              have st := hO2.out.store x (.int .u8 (r2 : Int))
              have hO3 := Lib.hid (st.1.congr (f' := gfV (rowX xs ys k x (i + 1))) fun j _ => by
                unfold gfV
                by_cases hj : j = x
                · subst hj
                  rw [if_pos rfl, ← hr2, ← hr, hfin.out]
                  unfold rowX
                  rw [if_neg (Nat.lt_irrefl j), if_pos rfl, if_neg (Nat.lt_irrefl j), if_pos rfl]
                  rfl
                · rw [if_neg hj]
                  unfold rowX
                  rw [if_neg hj, if_neg hj])
              have hb3 := Lib.hid (hO2.out.belowStore hb2.out (Nat.le_refl _) x (.int .u8 (r2 : Int)))
              clear st hr hr2
              go_wp2_with fail
              go_roundw
              case rel => exact ⟨i + 1, by go_num, by omega, hO3, hb3⟩
              case measure => simp [intOf]; omega
        · have hO3 := Lib.hid (hO2.out.congr (f' := gfV (rowX xs ys k (x + 1) 0)) fun j _ => by
            have hik2 : i = k := by omega
            unfold gfV rowX
            by_cases hj : j < x
            · rw [if_pos hj, if_pos (by omega)]
            · rw [if_neg hj]
              by_cases hj2 : j = x
              · subst hj2
                rw [if_pos rfl, if_pos (by omega), hik2]; rfl
              · rw [if_neg hj2, if_neg (by omega)]
                split <;> rfl)
          go_wp2_with fail
          go_roundw
          case rel => exact ⟨x + 1, by go_num, by omega, hO3, hb2⟩
          case measure => simp [intOf]; omega
    · have hfin : Hid (RowPost xs ys k n w (.returned (.slice (some ⟨g, 0, none⟩) n n)) wr) := ⟨g, n, rfl, hO.out.congr fun j hj => by
        unfold gfV rowX
        rw [if_pos (by omega)], hb.out⟩
      go_wp2_with fail
      go_ret
      exact hfin.out
end Go.Proofs.Ytgdcmebhopjfaaa
namespace Go.Proofs.Ytgdcmebhopjfaaa
open Go.RowKit

theorem i64Info : ElemRow Try.prog 3 (.int .i64 0) 1 8 := elemRow_of (by kernel_rfl) rfl (by omega)
def PutPost (ys : Nat → GF) (k n : Nat) (w : World) (e : Ending) (w' : World) : Prop :=
  ∃ g cap, e = .returned (.tuple #[.slice (some ⟨g, 0, none⟩) n cap, .int .i64 0]) ∧ Own w' w.heap.size 5 g n cap (gfV fun j => lag gf ys k (gf j)) ∧ Below w.heap.size w w'
set_option maxRecDepth 20000 in
set_option maxHeartbeats 1000000 in
theorem reed_Put (ys : Nat → GF) (n N : Nat) (ao : Option Addr) (cap : Nat) (w : World) (h1 : 1 ≤ n) (h2 : n ≤ N) (h3 : N ≤ 20) (hy : Hid (Reads w ao (rowF n (gfV ys)))) :
    Calls Try.prog 55 #[.slice ao n cap, .int .i64 N] w (PutPost ys n N w) := by
  have d1 : decide ((n : Int) < 1) = false := by simp; omega
  have d2 : decide ((20 : Int) < n) = false := by simp; omega
  have d3 : decide ((N : Int) < n) = false := by simp; omega
  have d4 : decide ((20 : Int) < N) = false := by simp; omega
  have d5 : decide (N < n) = false := by simp; omega
  go_enter Try.func55, Try.ntmps55
  go_wp2_with fail
  go_loopw [6, 7, 28] (fun vo _ vx wr => ∃ x : Nat, vx = .int .i64 x ∧ x ≤ n ∧ Hid (wr.ownsRow w.heap.size 3 1 vo x (rowF x (giV gf))) ∧ Hid (Below w.heap.size w wr)) (fun _ _ vx _ => n - (intOf vx).toNat)
  case atStart => exact ⟨0, rfl, by omega, World.ownsRow_nil _ _ _ _, Below.refl _ _⟩
  case round =>
    obtain ⟨x, rfl, hxn, hrow, hb⟩ := hrel
    by_cases hx1 : x < n
    · have hv : Hid (Value.int .i64 (x : Int) = giV gf x) := by
        show _ = _
        unfold giV
        rw [gf_val (by omega)]
      go_wp2_with (at_builtin; go_must (refine app_one rfl (.tmp 31) (.tmp 33) _ rfl w.heap.size 3 _ 1 8 Try.underlying22 i64Info u6 x (rowF x (giV gf)) (by rfl) hrow.out [.int .i64 (x : Int)] (by rfl) rfl (by intro u hu; simp at hu; subst hu; rfl) (by unfold maxLen; omega) (by omega) hb.out.size ?_); intro v2 w2 hown2 hgr2 hb3)
      have hrow3 : Hid (w2.ownsRow w.heap.size 3 1 v2 (x + 1) (rowF (x + 1) (giV gf))) := by
        show World.ownsRow _ _ _ _ _ _ _
        rw [rowF_succ, ← hv.out]; exact hown2
      have hb4 := Lib.hid (hb.out.trans hb3)
      clear hown2 hgr2 hb3
      go_roundw
      case rel => exact ⟨x + 1, by go_num, by omega, hrow3, hb4⟩
      case measure => simp [intOf]; omega
    · have hx2 : x = n := by omega
      obtain ⟨ao2, cp2, hv2, hR2, hn2, hm2⟩ := own_reads hrow.out
      rw [hx2] at hR2 hv2
      subst hv2
      have HR := Lib.hid hR2
      have HY := Lib.hid (hy.out.below hb.out)
      clear hR2 hn2 hm2 hx2
      go_wp2_with fail
      refine (reed_Row gf ys n N ao2 ao cp2 cap wr (by omega) (by omega) HR HY).mono ?_
      rintro e w' ⟨g, cp3, rfl, hO, hb3⟩
      have HO : Hid (Own w' w.heap.size 5 g N cp3 (gfV fun j => lag gf ys n (gf j))) := by
        have := own_mono hO hb.out.size
        exact this
      have HB := Lib.hid (hb.out.trans (Below.mono hb3 hb.out.size))
      clear hO hb3
      go_wp2_with fail
      go_ret2
      exact ⟨g, cp3, rfl, HO.out, HB.out⟩
end Go.Proofs.Ytgdcmebhopjfaaa
namespace Go.Proofs.Ytgdcmebhopjfaaa
open Go.RowKit

theorem keep_Within (k n : Int) (w : World) (hk : -9223372036854775808 ≤ k) (hk' : k ≤ 9223372036854775807) (hn : 1 ≤ n) (hn' : n ≤ 1000000000) :
    Calls Try.prog 12 #[.int .i64 k, .int .i64 n] w fun e w' => e = .returned (.int .i64 (k % n)) ∧ ∃ m, w' = w.drewN m := by
  go_enter Try.func12, Try.ntmps12
  go_wp2_with (go_at_call 75; refine (ref_Rest k n _ hk hk' hn hn').mono ?_; rintro e w' ⟨rfl, m, rfl⟩)
  go_ret
  exact ⟨rfl, _, rfl⟩
theorem good1 (x : Int) (w : World) : Calls Try.prog 90 #[.int .i64 x] w fun e w' => e = .returned (.bool (x != 0)) ∧ w = w' := by
  go_enter Try.func90, Try.ntmps90
  go_wp2_with fail
  go_ret
  exact ⟨rfl, rfl⟩
theorem hfnG : ∀ (x : Value) (W : World), (callFunc 90 #[x]).run Try.prog W = .ok (.enter 90 #[x]) W := by
  intro x W
  show (_ : Result _) = _
  kernel_rfl
theorem good_three (ao : Option Addr) (cap : Nat) (w : World) (hR : Hid (Reads w ao [.int .i64 0, .int .i64 0, .int .i64 0])) :
    Calls Try.prog 20 #[.slice ao 3 cap] w fun e w' => e = .returned (.bool true) ∧ ∃ m, w' = w.drewN m := by
  have h := containsFunc_err 90 hfnG (fun x => x != 0) [0, 0, 0] ao cap w (by simp) hR (Lib.hid fun x _ n => (good1 x _).mono fun e w' hh => ⟨hh.1, 0, hh.2.symm⟩)
  have e : ([0, 0, 0] : List Int).any (fun x => x != 0) = false := by decide
  rw [e] at h
  have HC := Lib.hid h
  clear h e
  go_enter Try.func20, Try.ntmps20
  go_wp2_with fail
  refine HC.out.mono ?_
  rintro e w' ⟨rfl, m, rfl⟩
  go_wp2_with fail
  go_ret
  exact ⟨rfl, m, rfl⟩
theorem prodPow_cons (a : Nat × Nat) (l : List (Nat × Nat)) : prodPow (a :: l) = a.1 ^ a.2 * prodPow l := rfl
set_option maxRecDepth 20000 in
set_option maxHeartbeats 1000000 in
theorem divide_Phi (n : Nat) (w : World) (h1 : 1 ≤ n) (hn : n ≤ 1000000) :
    Calls Try.prog 24 #[.int .i64 n] w fun e w' => (∃ f : Nat, (f : Int) = phi n ∧ f ≤ n ∧ e = .returned (.tuple #[.int .i64 f, .int .i64 0])) ∧ Below w.heap.size w w' := by
  go_enter Try.func24, Try.ntmps24
  go_wp2_with fail
  refine (prime_Factor n w h1 hn).mono ?_
  rintro e w1 ⟨l, v, hF, hll, rfl, hown, hbel⟩
  obtain ⟨ao, cp, rfl, hR, hnone, hmx⟩ := own_reads hown
  have HF := Lib.hid hF
  have HR := Lib.hid hR
  have HB := Lib.hid hbel
  have HMU : Hid (phi n = valL phiG l) := mult_eq hF
  obtain ⟨len, hlen⟩ : ∃ len, l.length = len := ⟨_, rfl⟩
  rw [hlen] at hll ⊢
  have HL := Lib.hid hlen
  clear hF hR hnone hmx hown hbel hlen
  go_wp2_with fail
  go_loopw [0, 18] (fun vo vi wr => ∃ (k c : Nat), vi = .int .i64 k ∧ k ≤ len ∧ vo = .int .i64 c ∧ c ≤ n ∧ Hid ((c : Int) = valL phiG (l.take k) * (prodPow (l.drop k) : Nat)) ∧ Hid (Below w1.heap.size w1 wr)) (fun _ vi _ => len - (intOf vi).toNat)
  case atStart => exact ⟨0, n, rfl, by omega, rfl, Nat.le_refl _, Lib.hid (by
    show _ = _
    rw [List.take_zero, List.drop_zero, HF.out.prod]
    show _ = 1 * _
    rw [Int.one_mul]), Below.refl _ _⟩
  case round =>
    obtain ⟨k, c, rfl, hk, rfl, hcn, hc, hb⟩ := hrel
    by_cases hkl : k < len
    · obtain ⟨a, ha⟩ : ∃ a, l[k]? = some a := ⟨l[k]'(by rw [HL.out]; exact hkl), List.getElem?_eq_getElem _⟩
      have hma := List.mem_of_getElem? ha
      obtain ⟨P, N⟩ := a
      have hN1 := (HF.out.pr _ hma).2
      have hP2 := (HF.out.pr _ hma).1.1
      simp only at hN1 hP2
      obtain ⟨M, rfl⟩ : ∃ M, N = M + 1 := ⟨N - 1, by omega⟩
      have hdrop : l.drop k = (P, M + 1) :: l.drop (k + 1) := by
        have hlt : k < l.length := by rw [HL.out]; exact hkl
        have hge := List.getElem?_eq_getElem hlt
        rw [ha] at hge
        rw [List.drop_eq_getElem_cons hlt, ← Option.some.inj hge]
      have hstep : Hid (((c / P * (P - 1) : Nat) : Int) = valL phiG (l.take (k + 1)) * (prodPow (l.drop (k + 1)) : Nat)) := by
        have h2 := hc.out
        rw [hdrop, prodPow_cons] at h2
        have h3 := phi_step (by omega) h2
        show _ = _
        rw [take_snoc2 l k _ ha, valL_append]
        show _ = valL phiG (l.take k) * (phiG P (M + 1) * 1) * _
        rw [Int.mul_one]
        exact h3
      have hple := phi_le c P
      obtain ⟨d, hd⟩ : ∃ d, c / P = d := ⟨_, rfl⟩
      have hdc : d ≤ c := by rw [← hd]; exact Nat.div_le_self _ _
      have ed : (c : Int) / (P : Int) = (d : Int) := by rw [← hd]; push_cast; rfl
      obtain ⟨u, hu⟩ : ∃ u, d * (P - 1) = u := ⟨_, rfl⟩
      rw [hd, hu] at hstep hple
      have eu : (d : Int) * ((P : Int) - 1) = (u : Int) := by rw [← hu, show (P : Int) - 1 = ((P - 1 : Nat) : Int) by omega]; push_cast; rfl
      have wd : IntKind.i64.wrap (d : Int) = (d : Int) := IntWalk.i64_in _ (by omega)
      have wu : IntKind.i64.wrap (u : Int) = (u : Int) := IntWalk.i64_in _ (by omega)
      have hPn : P ≤ n := Nat.le_of_dvd (by omega) (by have := dvd_prodPow hma (by omega); rw [HF.out.prod] at this; exact this)
      have wP : IntKind.i64.wrap ((P : Int) - 1) = (P : Int) - 1 := IntWalk.i64_in _ (by omega)
      have hP0 : ¬ ((P : Int) = 0) := by omega
      have hP0' : ¬ (P = 0) := by omega
      have hc1 := powCells_get l k _ ha
      have hR2 := (HR.out).below hb.out
      obtain ⟨b, of, rfl, hcell1⟩ := hR2 _ _ hc1.1
      obtain ⟨b', of', hbo, hcell2⟩ := hR2 _ _ hc1.2
      simp only [Option.some.injEq, Addr.mk.injEq, and_true] at hbo
      obtain ⟨rfl, rfl⟩ := hbo
      have hcell1' : wr.cell? ⟨b, of + k * 2, none⟩ = some (.int .i64 P) := hcell1
      have hcell2' : wr.cell? ⟨b, of + k * 2 + 1, none⟩ = some (.int .i64 ((M + 1 : Nat) : Int)) := hcell2
      have cb1 : (wr.alloc (.cells #[.int .i64 P, .int .i64 ((M + 1 : Nat) : Int)] 131)).cell? ⟨wr.heap.size, 0, none⟩ = some (.int .i64 P) := by simp [World.cell?_alloc_new]
      have HB9 := Lib.hid (hb.out.alloc hb.out.size (.cells #[.int .i64 P, .int .i64 ((M + 1 : Nat) : Int)] 131))
      clear hR2 hc1 ha hma hcell1 hcell2 hdrop hd hu
      go_wp2_with fail
      go_quiet (fail)
      go_wp2_with fail
      go_roundw
      case rel => exact ⟨k + 1, u, by go_num, by omega, rfl, by omega, hstep, Lib.hid (by repeat (first | exact HB9.out | apply below_drewN | (exact hb.out.alloc hb.out.size _)))⟩
      case measure => simp [intOf]; omega
    · have hfin : Hid ((c : Int) = phi n) := by
        have hkk : k = l.length := by rw [HL.out]; omega
        have h2 := hc.out
        rw [hkk, List.take_length, List.drop_length] at h2
        show _ = _
        rw [HMU.out, h2]
        show _ * ((1 : Nat) : Int) = _
        rw [Int.natCast_one, Int.mul_one]
      go_wp2_with fail
      go_ret2
      exact ⟨⟨c, hfin.out, hcn, rfl⟩, HB.out.trans (Below.mono hb.out HB.out.size)⟩
def w57 (j : Nat) : GF := gf (if j = 0 then 5 else 7)
theorem works_row : (lag gf w57 2 (gf 2)).val = 1 := by decide +kernel
set_option maxRecDepth 20000 in
theorem top_works (w : World) : Calls Try.prog 15 #[] w fun e w' => e = .returned (.bool true) ∧ Below w.heap.size w w' := by
  have HG := Lib.hid (fun W => euclid_Gcd 12 18 W (by omega) (by omega) (by omega) (by omega))
  have eg : gI 12 18 = 6 := by decide
  rw [eg] at HG
  have HP := Lib.hid (fun W ao (hy : Reads W ao (rowF 2 (gfV w57))) => reed_Put w57 2 3 ao 2 W (by omega) (by omega) (by omega) (Lib.hid hy))
  have e57 : rowF 2 (gfV w57) = [.int .u8 5, .int .u8 7] := by rfl
  clear eg
  go_enter Try.func15, Try.ntmps15
  go_wp2_with fail
  refine (HG.out _).mono ?_
  rintro e w1 ⟨rfl, q, rfl⟩
  go_wp2_with fail
  refine (HP.out _ _ (by rw [e57]; exact reads_new (w.drewN q) #[.int .u8 5, .int .u8 7] _)).mono ?_
  rintro e w2 ⟨g, cp, rfl, hO, hb2⟩
  have c2 := hO.cell (i := 2) (by omega)
  have hv : gfV (fun j => lag gf w57 2 (gf j)) 2 = .int .u8 1 := by unfold gfV; rw [works_row]; rfl
  rw [hv] at c2
  have HB2 : Hid (Below w.heap.size w w2) := (Below.alloc (below_dr w.heap.size w q) (Nat.le_refl _) _).trans (Below.mono hb2 (by simp))
  clear hO hb2 hv HP HG
  go_wp2_with fail
  go_ret
  exact ⟨by simp, HB2.out⟩
end Go.Proofs.Ytgdcmebhopjfaaa
namespace Go.Proofs.Ytgdcmebhopjfaaa
open Go.RowKit

theorem ptsI_zero {p : Int} {l : Pts} (hb : ∀ (i : Nat) (z : Int × Int), l[i]? = some z → badP p z = false) (hd : ∀ (i : Nat) (z : Int × Int), l[i]? = some z → dupP l i z.1 = false) : ∀ n i, ptsI p l n i = 0
  | 0, _ => rfl
  | n + 1, i => by
    rw [ptsI]
    cases hz : l[i]? with
    | none => rfl
    | some z =>
      show (if badP p z = true then 1 else if dupP l i z.1 = true then 6 else ptsI p l n (i + 1)) = 0
      rw [hb i z hz, hd i z hz, if_neg (by simp), if_neg (by simp)]
      exact ptsI_zero hb hd n (i + 1)
theorem ptsE_ok {p : Int} {l : Pts} (h : PtsOk p l) : ptsE p l = 0 := by
  unfold ptsE
  rw [fldE_zero h.p1 h.p2 h.pr, if_neg (by omega), if_neg (by have := h.len; omega)]
  refine ptsI_zero (fun i z hz => ?_) (fun i z hz => ?_) _ _
  · have := h.bd i z hz
    unfold badP
    simp
    omega
  · cases hd : dupP l i z.1 with
    | false => rfl
    | true =>
      obtain ⟨j, y, hj, hy, he⟩ := dupP_iff.1 hd
      exact absurd he (h.ne i j z y hj hz hy)
theorem evp_zero (f : List Int) : evp 0 f = co f 0 := by
  cases f with
  | nil => rfl
  | cons a f =>
    unfold evp
    have h : ∀ n, evn 0 (co (a :: f)) (n + 1) = co (a :: f) 0 := by
      intro n
      induction n with
      | zero => show (0 : Int) + co (a :: f) 0 * 0 ^ 0 = _; rw [Int.pow_zero, Int.mul_one, Int.zero_add]
      | succ n ih =>
        show evn 0 (co (a :: f)) (n + 1) + co (a :: f) (n + 1) * 0 ^ (n + 1) = _
        rw [ih, Int.pow_succ, Int.mul_zero, Int.mul_zero, Int.add_zero]
    exact h f.length
set_option maxRecDepth 20000 in
set_option maxHeartbeats 1000000 in
theorem points_At_on (p : Int) (F : List Int) (l : Pts) (x : Int) (n : Nat) (ao : Option Addr) (cap : Nat) (w : World) (OP : PtsOk p l) (hp : (Lit.int .i64 p).wf = true) (hx : (Lit.int .i64 x).wf = true) (hl : l.length = n) (hc : n ≤ cap) (hR : Hid (Reads w ao (cells2 (l.map pV)))) (hF : InF p F) (hFl : F.length ≤ n) (hon : OnF p F l) :
    Calls Try.prog 19 #[.int .i64 p, .slice ao n cap, .int .i64 x] w fun e w' => e = .returned (.tuple #[.int .i64 (evp (x % p) F % p), .int .i64 0]) ∧ Below w.heap.size w w' := by
  have C1 := Lib.hid (points_Through p l n ao cap w hp hl hc hR (ptsE_ok OP))
  have HOP := Lib.hid OP
  have HP := Lib.hid hp
  have HX := Lib.hid hx
  have HU : Hid (∀ h, ThrIs p l h → h = trim F) := fun h t => thr_uniq OP t hF (by omega) hon
  clear hp hx hl OP hF hon
  go_enter Try.func19, Try.ntmps19
  go_wp2_with (first | (go_at_call 16; refine C1.out.mono ?_; rintro e w1 ⟨h, v, hthr, hb1, rfl, hown⟩; obtain ⟨a1, k1, rfl, r1, n1, kk1, kk2⟩ := own_data hown) | (go_at_call 18; refine (poly_At p h x a1 h.length k1 _ HP.out HX.out rfl (ints_B0 r1) r1 (polE_ok (hthr.pol HOP.out))).mono ?_; rintro e w2 ⟨rfl, hb2⟩))
  go_ret2
  refine ⟨?_, hb1.trans (hb2.mono hb1.size)⟩
  rw [HU.out h hthr, evp_trim]; rfl
set_option maxRecDepth 20000 in
set_option maxHeartbeats 1000000 in
theorem secret_Join_on (p : Int) (F : List Int) (l : Pts) (n : Nat) (ao : Option Addr) (cap : Nat) (w : World) (OP : PtsOk p l) (hp : (Lit.int .i64 p).wf = true) (hl : l.length = n) (h0 : 0 < n) (hc : n ≤ cap) (hR : Hid (Reads w ao (cells2 (l.map pV)))) (hF : InF p F) (hFl : F.length ≤ n) (hon : OnF p F l) (hz : l.any (fun y => y.1 == 0) = false) :
    Calls Try.prog 17 #[.int .i64 p, .slice ao n cap] w fun e w' => e = .returned (.tuple #[.int .i64 (co F 0), .int .i64 0]) ∧ Below w.heap.size w w' := by
  have l12 := OP.len
  have p1 := OP.p1
  have CK := Lib.hid (points_Check p l n ao cap w hp hl (by omega) hc hR)
  rw [ptsE_ok OP] at CK
  have d1 : ((n : Int) == 0) = false := by simp; omega
  have CF := Lib.hid (fun w' (hb : Below w.heap.size w w') => containsFunc_pt 85 (fun x W => by go_simp) (fun y => y.1 == 0) l n ao cap w' hl (by omega) (hR.out.below hb) (fun y _ W _ => join_zero y W))
  rw [hz] at CF
  have hx0 : (Lit.int .i64 0).wf = true := by decide
  have CA : Hid (∀ w', Below w.heap.size w w' → Calls Try.prog 19 #[.int .i64 p, .slice ao n cap, .int .i64 0] w' fun e w'' => e = .returned (.tuple #[.int .i64 (co F 0), .int .i64 0]) ∧ Below w'.heap.size w' w'') := fun w' hb => by
    have h := points_At_on p F l 0 n ao cap w' OP hp hx0 hl hc (hR.out.below hb) hF hFl hon
    rwa [Int.zero_emod, evp_zero, hF.mod (by omega)] at h
  clear hl hp OP hF hon hz l12
  go_enter Try.func17, Try.ntmps17
  go_wp2_with (first | (go_at_call 81; refine CK.out.mono ?_; rintro e w1 ⟨rfl, hb1⟩) | (go_at_call 84; refine (CF.out _ hb1).mono ?_; rintro e w2 ⟨rfl, s2⟩; have hb2 := hb1.trans (s2.mono hb1.size)) | (go_at_call 19; refine (CA.out _ hb2).mono ?_; rintro e w3 ⟨rfl, s3⟩; have hb3 := hb2.trans (s3.mono hb2.size)))
  go_ret2
  exact ⟨rfl, hb3⟩
theorem pair_drop {w : World} {b o : Nat} {zs : Pts} (h : Reads w (some ⟨b, o, none⟩) (cells2 (zs.map pV))) (m : Nat) : Reads w (some ⟨b, o + m * 2, none⟩) (cells2 ((zs.drop m).map pV)) := by
  intro j u hu
  obtain ⟨k, a, hk, hd⟩ := cells2_get' _ j u hu
  rw [List.map_drop, List.getElem?_drop] at hk
  obtain ⟨h1, h2⟩ := cells2_get (zs.map pV) (m + k) a hk
  rcases hd with ⟨rfl, rfl⟩ | ⟨rfl, rfl⟩
  · obtain ⟨b2, o2, ha, hc⟩ := h _ _ h1
    injection ha with ha
    injection ha with e1 e2
    subst e1 e2
    exact ⟨b, o + m * 2, rfl, by rw [show o + m * 2 + k * 2 = o + (m + k) * 2 by omega]; exact hc⟩
  · obtain ⟨b2, o2, ha, hc⟩ := h _ _ h2
    injection ha with ha
    injection ha with e1 e2
    subst e1 e2
    exact ⟨b, o + m * 2, rfl, by rw [show o + m * 2 + (k * 2 + 1) = o + ((m + k) * 2 + 1) by omega]; exact hc⟩
/-! ### The dealt points -/
theorem dealL_get {p : Int} {f : List Int} {n i : Nat} (h : i < n) : (dealL p f n)[i]? = some (dealP p f i) := by unfold dealL; simp [h]
theorem deal_sub {p : Int} {f : List Int} {n : Nat} (h1 : 2 ≤ p) (h2 : p ≤ 997) (hpr : IsPr p.toNat) (hn : n ≤ 12) (hnp : (n : Int) < p) (a m : Nat) (ham : a + m ≤ n) :
    PtsOk p (((dealL p f n).drop a).take m) ∧ OnF p f (((dealL p f n).drop a).take m) ∧ (((dealL p f n).drop a).take m).length = m ∧ (((dealL p f n).drop a).take m).any (fun y => y.1 == 0) = false := by
  have hlen : (((dealL p f n).drop a).take m).length = m := by unfold dealL; simp; omega
  have hget : ∀ i z, (((dealL p f n).drop a).take m)[i]? = some z → i < m ∧ z = dealP p f (a + i) := by
    intro i z hz
    have hi : i < m := by have := (List.getElem?_eq_some_iff.1 hz).1; omega
    rw [List.getElem?_take, if_pos hi, List.getElem?_drop, dealL_get (by omega)] at hz
    exact ⟨hi, (Option.some.inj hz).symm⟩
  refine ⟨⟨h1, h2, hpr, by omega, fun i z hz => ?_, fun i j z y hj hz hy => ?_⟩, fun k hk => ?_, hlen, ?_⟩
  · obtain ⟨hi, rfl⟩ := hget i z hz
    unfold dealP
    refine ⟨by show (0 : Int) ≤ ((a + i + 1 : Nat) : Int); omega, by show ((a + i + 1 : Nat) : Int) < p; omega, Int.emod_nonneg _ (by omega), Int.emod_lt_of_pos _ (by omega)⟩
  · obtain ⟨hi, rfl⟩ := hget i z hz
    obtain ⟨hj2, rfl⟩ := hget j y hy
    unfold dealP
    show ((a + j + 1 : Nat) : Int) ≠ ((a + i + 1 : Nat) : Int)
    omega
  · obtain ⟨z, hz⟩ : ∃ z, (((dealL p f n).drop a).take m)[k]? = some z := ⟨_, List.getElem?_eq_getElem hk⟩
    rw [xs_get hz, ys_get hz, (hget k z hz).2]
    rfl
  · rw [List.any_eq_false]
    intro z hz
    obtain ⟨k, hk⟩ := List.getElem?_of_mem hz
    rw [(hget k z hk).2]
    unfold dealP
    simp
    omega
theorem good_five (ao : Option Addr) (cap : Nat) (w : World) (hR : Hid (Reads w ao [.int .i64 0, .int .i64 0, .int .i64 0, .int .i64 0, .int .i64 0])) :
    Calls Try.prog 20 #[.slice ao 5 cap] w fun e w' => e = .returned (.bool true) ∧ ∃ m, w' = w.drewN m := by
  have h := containsFunc_err 90 hfnG (fun x => x != 0) [0, 0, 0, 0, 0] ao cap w (by simp) hR (Lib.hid fun x _ n => (good1 x _).mono fun e w' hh => ⟨hh.1, 0, hh.2.symm⟩)
  have e : ([0, 0, 0, 0, 0] : List Int).any (fun x => x != 0) = false := by decide
  rw [e] at h
  have HC := Lib.hid h
  clear h e
  go_enter Try.func20, Try.ntmps20
  go_wp2_with fail
  refine HC.out.mono ?_
  rintro e w' ⟨rfl, m, rfl⟩
  go_wp2_with fail
  go_ret
  exact ⟨rfl, m, rfl⟩
end Go.Proofs.Ytgdcmebhopjfaaa
namespace Go.Proofs.Ytgdcmebhopjfaaa
open Go.RowKit

theorem pr101 : IsPr 101 := ⟨by omega, fun d h2 h => (by decide : ∀ d, d < 101 → 2 ≤ d → ¬ d ∣ 101) d h h2⟩
theorem wf_bd {a : Int} (h : (Lit.int .i64 a).wf = true) : -9223372036854775808 ≤ a ∧ a ≤ 9223372036854775807 := by
  simpa [Lit.wf, IntKind.min, IntKind.max, IntKind.signed, IntKind.bits] using h
theorem wf_of {a : Int} (h : -9223372036854775808 ≤ a ∧ a ≤ 9223372036854775807) : (Lit.int .i64 a).wf = true := by
  simpa [Lit.wf, IntKind.min, IntKind.max, IntKind.signed, IntKind.bits] using h
theorem cells2_take : ∀ (L : List (Value × Value)) (m : Nat), cells2 (L.take m) = (cells2 L).take (m * 2)
  | [], m => by simp [cells2]
  | z :: L, 0 => by simp [cells2]
  | z :: L, m + 1 => by
    have ih := cells2_take L m
    rw [show (m + 1) * 2 = m * 2 + 1 + 1 by omega]
    show z.1 :: z.2 :: cells2 (L.take m) = z.1 :: z.2 :: (cells2 L).take (m * 2)
    rw [ih]
theorem pair_sub {w : World} {b o : Nat} {zs : Pts} (h : Reads w (some ⟨b, o, none⟩) (cells2 (zs.map pV))) (a m : Nat) : Reads w (some ⟨b, o + a * 2, none⟩) (cells2 (((zs.drop a).take m).map pV)) := by
  intro j u hu
  rw [List.map_take, cells2_take, List.getElem?_take] at hu
  split at hu
  · exact pair_drop h a j u hu
  · simp at hu
theorem int_drop {w : World} {b o : Nat} {zs : List Int} (h : Reads w (some ⟨b, o, none⟩) (zs.map (Value.int .i64))) (m : Nat) : Reads w (some ⟨b, o + m, none⟩) ((zs.drop m).map (Value.int .i64)) := by
  intro j u hu
  rw [List.map_drop, List.getElem?_drop] at hu
  obtain ⟨b2, o2, ha, hc⟩ := h _ _ hu
  injection ha with ha
  injection ha with e1 e2
  subst e1 e2
  exact ⟨b, o + m, rfl, by rw [Nat.add_assoc]; exact hc⟩
theorem deal_ok {p s : Int} {t : List Int} {n : Int} (h1 : fldE p = 0) (h2 : t.length ≤ 11) (h3 : 0 ≤ n) (h4 : n ≤ 12) (h5 : n < p) (h6 : ∀ x ∈ s :: t, 0 ≤ x ∧ x < p) : dealE p s t n = 0 := by
  have ha : (s :: t).any (outF p) = false := by
    rw [List.any_eq_false]
    intro x hx
    have := h6 x hx
    unfold outF
    simp; omega
  unfold dealE
  rw [if_neg (by omega), if_neg (by omega), if_neg (by omega), ha, if_neg (by simp)]
theorem own_formK {w : World} {base e size : Nat} {v : Value} {n K : Nat} {xs : List Value} (h : w.ownsRow base e size v n xs) (hx : xs ≠ []) (hK : n = K) : ∃ g cap, v = .slice (some ⟨g, 0, none⟩) K cap ∧ w.ownsRow base e size (.slice (some ⟨g, 0, none⟩) K cap) K xs := by
  subst hK
  obtain ⟨g, cap, rfl⟩ := own_form h hx
  exact ⟨g, cap, rfl, h⟩
theorem reads_cell {w : World} {b o : Nat} {xs : List Value} (h : Reads w (some ⟨b, o, none⟩) xs) {i : Nat} {u : Value} (hi : xs[i]? = some u) : w.cell? ⟨b, o + i, none⟩ = some u := by
  obtain ⟨b2, o2, ha, hc⟩ := h i u hi
  injection ha with ha
  injection ha with e1 e2
  subst e1 e2
  exact hc
set_option maxRecDepth 20000 in
set_option maxHeartbeats 1000000 in
theorem thr_on (p : Int) (F : List Int) (l : Pts) (n : Nat) (ao : Option Addr) (cap : Nat) (w : World) (OP : PtsOk p l) (hp : (Lit.int .i64 p).wf = true) (hl : l.length = n) (hc : n ≤ cap) (hR : Hid (Reads w ao (cells2 (l.map pV)))) (hF : InF p F) (hFl : F.length ≤ n) (hon : OnF p F l) {tr : List Int} {g : Nat} (ht : trim F = tr) (hg : tr.length = g) :
    Calls Try.prog 16 #[.int .i64 p, .slice ao n cap] w fun e w' => ∃ a k, e = .returned (.tuple #[.slice a g k, .int .i64 0]) ∧ Below w.heap.size w w' ∧ Reads w' a (tr.map (Value.int .i64)) := by
  refine (points_Through p l n ao cap w hp hl hc hR (ptsE_ok OP)).mono ?_
  rintro e w1 ⟨h, v, hthr, hb1, rfl, hown⟩
  obtain ⟨a1, k1, rfl, r1, n1, kk1, kk2⟩ := own_data hown
  have hh : h = tr := by rw [thr_uniq OP hthr hF (by omega) hon, ht]
  subst hh
  subst hg
  exact ⟨a1, k1, rfl, hb1, r1⟩
theorem polyAt_on (p : Int) (F : List Int) (x : Int) (ao : Option Addr) (cap : Nat) (w : World) (h1 : 2 ≤ p) (h2 : p ≤ 997) (h3 : IsPr p.toNat) (hp : (Lit.int .i64 p).wf = true) (hx : (Lit.int .i64 x).wf = true) (hF : InF p F) (hFl : F.length ≤ 40) {tr : List Int} {g : Nat} (ht : trim F = tr) (hg : tr.length = g) (hR : Reads w ao (tr.map (Value.int .i64))) :
    Calls Try.prog 18 #[.int .i64 p, .slice ao g cap, .int .i64 x] w fun e w' => e = .returned (.tuple #[.int .i64 (evp (x % p) F % p), .int .i64 0]) ∧ Below w.heap.size w w' := by
  subst ht
  have h := poly_At p (trim F) x ao g cap w hp hx hg (ints_B0 hR) hR (trim_ok h1 h2 h3 hFl hF)
  rwa [evp_trim] at h
theorem short_on (F : List Int) (n : Nat) (ao : Option Addr) (cap : Nat) (w : World) (hn : n ≤ 1000000000) (hl : F.length = n) (hc : n ≤ cap) (hc2 : cap ≤ 9223372036854775807) (hnone : ao = none → n = 0 ∧ cap = 0) (hR : Hid (Reads w ao (F.map (Value.int .i64)))) {tr : List Int} {g : Nat} (ht : trim F = tr) (hg : tr.length = g) :
    Calls Try.prog 22 #[.slice ao n cap] w fun e w' => ∃ a k, e = .returned (.slice a g k) ∧ Below w.heap.size w w' ∧ Reads w' a (tr.map (Value.int .i64)) := by
  refine (ref_Short F n ao cap w.heap.size w hn hl hc hc2 hnone hR (Nat.le_refl _)).mono ?_
  rintro e w1 ⟨v, rfl, hown, hb1⟩
  subst ht
  subst hg
  obtain ⟨a1, k1, rfl, r1, n1, kk1, kk2⟩ := own_data hown
  exact ⟨a1, k1, rfl, hb1, r1⟩
theorem equal_on (zs : List Int) (n : Nat) (ao bo : Option Addr) (ca cb : Nat) (w : World) (hl : zs.length = n) (h63 : n ≤ 9223372036854775807) (hX : Reads w ao (zs.map (Value.int .i64))) (hY : Reads w bo (zs.map (Value.int .i64))) :
    Calls Try.prog 21 #[.slice ao n ca, .slice bo n cb] w fun e w' => e = .returned (.bool true) ∧ ∃ m, w' = w.drewN m := by
  have h := equal_int zs zs ao bo ca cb w (by omega) (by omega) hX hY
  rw [hl, decide_eq_true rfl] at h
  exact h
set_option maxRecDepth 100000 in
set_option maxHeartbeats 4000000 in
theorem topShares_walk (n s : Int) (ao : Option Addr) (nt ca : Nat) (tape : List Int) (x : Int) (w : World) (hn : (Lit.int .i64 n).wf = true) (hs : (Lit.int .i64 s).wf = true) (h1 : IntsIn .i64 w ao nt tape ∧ CapOk ao nt ca) (hx : (Lit.int .i64 x).wf = true) :
    Calls Try.prog 3 #[.int .i64 n, .int .i64 s, .slice ao nt ca, .int .i64 x] w fun e w' => e = .returned (.bool true) ∧ Below w.heap.size w w' := by
  obtain ⟨⟨hlt, h63, hwf, hT'⟩, hna, hca, hca2⟩ := h1
  obtain ⟨L', hL'⟩ : ∃ L', tape.take 8 = L' := ⟨_, rfl⟩
  obtain ⟨m, hm⟩ : ∃ m, L'.length = m := ⟨_, rfl⟩
  have hm8 : m ≤ 8 ∧ m ≤ nt := by rw [← hm, ← hL', List.length_take]; omega
  have hmin : m = min nt 8 := by rw [← hm, ← hL', List.length_take]; omega
  have hT8 := Lib.hid (reads_take hT' 8)
  rw [hL'] at hT8
  have HLI : Hid (∀ z ∈ s :: L', -9223372036854775808 ≤ z ∧ z ≤ 9223372036854775807) := Lib.hid fun z hz => by
    rcases List.mem_cons.1 hz with rfl | h
    · exact wf_bd hs
    · exact wf_bd (hwf z (List.mem_of_mem_take (by rw [hL']; exact h)))
  have HM := Lib.hid hm
  have bn := wf_bd hn
  have CW := Lib.hid (fun X => keep_Within n 897 X bn.1 bn.2 (by omega) (by omega))
  obtain ⟨v, hv⟩ : ∃ v, n % 897 = v := ⟨_, rfl⟩
  have hv0 : 0 ≤ v ∧ v < 897 := by rw [← hv]; exact ⟨Int.emod_nonneg _ (by omega), Int.emod_lt_of_pos _ (by omega)⟩
  rw [hv] at CW
  have hw1 : IntKind.i64.wrap (101 + v) = 101 + v := IntWalk.i64_in _ (by omega)
  have HX := Lib.hid hx
  have HNA := Lib.hid hna
  have HLT := Lib.hid hlt
  clear hn hs hx hwf hT' hv bn hL' hm hlt
  go_enter Try.func3, Try.ntmps3
  go_wp2_with (go_at_call 12; refine (CW.out _).mono ?_; rintro e w1 ⟨rfl, m1, rfl⟩)
  go_loopw [9] (fun vp wr => ∃ q : Nat, vp = .int .i64 q ∧ 101 ≤ q ∧ q ≤ 997 ∧ Hid (Below w.heap.size w wr)) (fun vp _ => (intOf vp).toNat)
  case atStart => exact ⟨(101 + v).toNat, by congr 1; omega, by omega, by omega, Lib.hid (below_drewN (Below.refl _ _) _)⟩
  case round =>
    obtain ⟨q, rfl, hq1, hq2, hb⟩ := hrel
    have CP := Lib.hid (fun X => ref_Prime q X (by omega))
    cases hpr : prB q with
    | false =>
      have hq3 : 101 < q := by
        rcases Nat.lt_or_ge 101 q with h | h
        · exact h
        · have : q = 101 := by omega
          subst this
          exact absurd pr101 (prB_iff'.1 hpr)
      have w2 : IntKind.i64.wrap ((q : Int) - 1) = (q : Int) - 1 := IntWalk.i64_in _ (by omega)
      rw [hpr] at CP
      clear hpr
      go_wp2_with (go_at_call 13; refine (CP.out _).mono ?_; rintro e w' ⟨rfl, rfl⟩)
      go_roundw
      case rel => exact ⟨q - 1, by go_num, by omega, by omega, hb⟩
      case measure => simp [intOf]; omega
    | true =>
      have HPR := Lib.hid (prB_iff.1 hpr)
      rw [hpr] at CP
      clear hpr
      obtain ⟨K, hK⟩ : ∃ K, 1 + m = K := ⟨_, rfl⟩
      have hown1 : Hid ((wr.alloc (.cells #[.int .i64 s] 3)).ownsRow wr.heap.size 3 1 (.slice (some ⟨wr.heap.size, 0, none⟩) 1 1) 1 [.int .i64 s]) := own_lit wr wr.heap.size 3 [.int .i64 s] (Nat.le_refl _) (by unfold maxLen; simp)
      have hb1 : Hid (Below wr.heap.size wr (wr.alloc (.cells #[.int .i64 s] 3))) := (Below.refl _ wr).alloc (Nat.le_refl _) _
      have hR1 : Hid (Reads (wr.alloc (.cells #[.int .i64 s] 3)) ao (L'.map (Value.int .i64))) := (hT8.out.below hb.out).below hb1.out
      have HL1 : Hid ((L'.map (Value.int .i64)).length = m * 1) := by show _ = _; rw [List.length_map, HM.out, Nat.mul_one]
      have HN1 : Hid (ao = none → m = 0 ∧ ca = 0) := fun h => by have := HNA.out h; omega
      have HI1 : Hid (∀ u ∈ L'.map (Value.int .i64), u.oneCell' = true) := ints_one .i64 L'
      have hKm : Hid (1 + m = K) := hK
      clear hK
      have hcase : (ao = none ∧ nt = 0 ∧ ca = 0 ∧ m = 0) ∨ (∃ a, ao = some a ∧ ¬ (8 : Int) < (nt : Int) ∧ m = nt) ∨ (∃ a, ao = some a ∧ (8 : Int) < (nt : Int) ∧ m = 8) := by
        cases ao with
        | none => have := HNA.out rfl; exact .inl ⟨rfl, by omega, by omega, by omega⟩
        | some a =>
          rcases Nat.lt_or_ge 8 nt with h | h
          · exact .inr (.inr ⟨a, rfl, by omega, by omega⟩)
          · exact .inr (.inl ⟨a, rfl, by omega, by omega⟩)
      have hK9 : 1 ≤ K ∧ K ≤ 9 := by have := hKm.out; omega
      have HL : Hid ((s :: L').length = K) := by show _ = _; rw [List.length_cons, HM.out, ← hKm.out, Nat.add_comm]
      clear hmin hm8 hna hv0 hw1
      rcases hcase with ⟨rfl, rfl, rfl, rfl⟩ | ⟨a, rfl, n8, rfl⟩ | ⟨a, rfl, n8, rfl⟩
      all_goals
        go_wp2_with (first | (go_at_call 13; refine (CP.out _).mono ?_; rintro e w' ⟨rfl, rfl⟩) | (at_builtin; go_must (refine app_all rfl (.tmp 34) (.tmp 39) _ rfl wr.heap.size 3 _ 1 8 Try.underlying22 intRow _ 1 [.int .i64 s] (by rfl) hown1.out _ _ _ (L'.map (Value.int .i64)) (by rfl) (by intro h; first | exact ⟨rfl, rfl⟩ | cases h) HL1.out hR1.out HI1.out (by unfold maxLen; omega) (by omega) hb1.out.size ?_); intro v2 w2 hown2 hgr2 hb2; obtain ⟨G, cp, rfl, hO2⟩ := own_formK hown2 (by simp) hKm.out))
        have hr2 : Hid (Reads w2 (some ⟨G, 0, none⟩) ((s :: L').map (Value.int .i64))) := by
          obtain ⟨ao2, c2, hv, hR, _, _⟩ := own_reads hO2
          cases hv
          exact hR
        have hB2 : Hid (Below w.heap.size w w2) := hb.out.trans ((hb1.out.trans hb2).mono hb.out.size)
        clear hown2 hgr2 hb2 hO2 hown1 hb1 hR1 HL1 HN1 HI1 hb CP
        go_loopw [10, 42] (fun vf vi wr => ∃ i : Nat, vi = .int .i64 i ∧ i ≤ K ∧ Hid (wr.ownsRow w2.heap.size 3 1 vf i ((((s :: L').take i).map (· % (q : Int))).map (Value.int .i64))) ∧ Hid (Below w2.heap.size w2 wr)) (fun _ vi _ => K - (intOf vi).toNat)
        case atStart => exact ⟨0, rfl, by omega, World.ownsRow_nil _ _ _ _, Below.refl _ _⟩
        case round =>
          obtain ⟨i, rfl, hi, hO, hbw⟩ := hrel
          by_cases hik : i < K
          · obtain ⟨z, hz⟩ : ∃ z, (s :: L')[i]? = some z := ⟨_, List.getElem?_eq_getElem (show i < (s :: L').length by rw [HL.out]; exact hik)⟩
            have zb := HLI.out z (List.mem_of_getElem? hz)
            have c1 := reads_cell (hr2.out.below hbw.out) (i := i) (u := .int .i64 z) (by rw [List.getElem?_map, hz]; rfl)
            rw [Nat.zero_add] at c1
            have HW := Lib.hid (fun X => keep_Within z q X zb.1 zb.2 (by omega) (by omega))
            have HS : Hid ((((s :: L').take (i + 1)).map (· % (q : Int))).map (Value.int .i64) = (((s :: L').take i).map (· % (q : Int))).map (Value.int .i64) ++ [.int .i64 (z % q)]) := by show _ = _; rw [List.take_add_one, hz]; simp
            obtain ⟨r, hr⟩ : ∃ r, z % (q : Int) = r := ⟨_, rfl⟩
            rw [hr] at HW HS
            clear hz hr zb
            go_wp2_with (first
              | (go_at_call 12; refine (HW.out _).mono ?_; rintro e w' ⟨rfl, m5, rfl⟩; have hown2 := Lib.hid (own_below hO.out (below_dr wr.heap.size wr m5)); have hb5 := Lib.hid (below_drewN hbw.out m5); obtain ⟨wq, hwq⟩ : ∃ wq, wr.drewN m5 = wq := ⟨_, rfl⟩; rw [hwq] at hown2 hb5 ⊢; clear hwq)
              | (at_builtin; go_must (refine app_one rfl (.tmp 46) (.tmp 50) 22 rfl w2.heap.size 3 _ 1 8 Try.underlying22 intRow _ i _ (by rfl) hown2.out [.int .i64 r] (by rfl) rfl (by intro u hu; simp at hu; subst hu; rfl) (by unfold maxLen; omega) (by omega) hb5.out.size ?_); intro v6 w6 hown6 hgr6 hb6))
            have hrow6 : Hid (w6.ownsRow w2.heap.size 3 1 v6 (i + 1) ((((s :: L').take (i + 1)).map (· % (q : Int))).map (Value.int .i64))) := by
              show World.ownsRow _ _ _ _ _ _ _
              rw [HS.out]; exact hown6
            have hb7 := Lib.hid (hb5.out.trans hb6)
            clear hown6 hgr6 hb6
            go_roundw
            case rel => exact ⟨i + 1, by go_num, by omega, hrow6, hb7⟩
            case measure => simp [intOf]; omega
          · obtain rfl : K = i := by omega
            obtain ⟨F', hF'⟩ : ∃ F', L'.map (· % (q : Int)) = F' := ⟨_, rfl⟩
            obtain ⟨f0, hf0⟩ : ∃ f0, s % (q : Int) = f0 := ⟨_, rfl⟩
            have e0 : ((s :: L').take K).map (· % (q : Int)) = f0 :: F' := by rw [← HL.out, List.take_length, List.map_cons, hf0, hF']
            have hO1 := hO.out
            rw [e0] at hO1
            obtain ⟨gf, cf, rfl, hOf⟩ := own_formK hO1 (by simp) rfl
            obtain ⟨af, kf, hv, hRf, _, k1, k2⟩ := own_data hOf
            cases hv
            have hl' : F'.length + 1 = K := by rw [← hF', List.length_map]; exact HL.out
            have hin : ∀ x ∈ f0 :: F', 0 ≤ x ∧ x < (q : Int) := by
              rw [← e0]
              intro x hx
              obtain ⟨y, _, rfl⟩ := List.mem_map.1 hx
              exact ⟨Int.emod_nonneg _ (by omega), Int.emod_lt_of_pos _ (by omega)⟩
            have hp2 : fldE (q : Int) = 0 := fldE_zero (by omega) (by omega) HPR.out
            have hpw : (Lit.int .i64 (q : Int)).wf = true := wf_of ⟨by omega, by omega⟩
            obtain ⟨M, hM⟩ : ∃ M, K - 1 = M := ⟨_, rfl⟩
            obtain ⟨T, hT⟩ : ∃ T, K + 2 = T := ⟨_, rfl⟩
            have hB3 : Hid (Below w.heap.size w wr) := hB2.out.trans (hbw.out.mono hB2.out.size)
            have hRt : Hid (Reads wr (if cf = 1 then some ⟨gf, 0, none⟩ else some ⟨gf, 1, none⟩) (F'.map (Value.int .i64))) := by
              show Reads _ _ _
              by_cases h1 : cf = 1
              · have : F' = [] := List.eq_nil_of_length_eq_zero (by omega)
                rw [this]
                exact Reads.nil _ _
              · rw [if_neg h1]
                exact int_drop hRf 1
            obtain ⟨AF, hAF⟩ : ∃ AF, (if cf = 1 then some (⟨gf, 0, none⟩ : Addr) else some ⟨gf, 1, none⟩) = AF := ⟨_, rfl⟩
            rw [hAF] at hRt
            have CD : Hid (∀ X, Below wr.heap.size wr X → Calls Try.prog 14 #[.int .i64 q, .int .i64 f0, .slice AF M (cf - 1), .int .i64 T] X (DealPost q (f0 :: F') T X)) := fun X hX => by
              have h := secret_Deal q f0 F' (T : Int) M AF (cf - 1) X hpw (by omega) (by omega) (fun h => by rw [← hAF] at h; split at h <;> cases h) (hRt.out.below hX) (deal_ok hp2 (by omega) (by omega) (by omega) (by omega) hin)
              rwa [Int.toNat_natCast] at h
            have c0 : wr.cell? ⟨gf, 0, none⟩ = some (.int .i64 f0) := reads_cell hRf (i := 0) rfl
            have HRF := Lib.hid hRf
            have w3 : IntKind.i64.wrap ((K : Int) + 2) = (T : Int) := by rw [← hT]; push_cast; exact IntWalk.i64_in _ (by omega)
            have HIN := Lib.hid hin
            have HP2 := Lib.hid hp2
            have HPW := Lib.hid hpw
            have HFL := Lib.hid hl'
            have HT := Lib.hid hT
            clear hF' hf0 e0 hO1 hOf hRf hl' hin hp2 hpw hT hO hr2 hT8 HLI HM HL HLT HNA CW
            have kp1 : 0 < K := by omega
            have kp2 : (0 : Int) < (K : Int) := by omega
            have kp3 : (1 : Int) ≤ (K : Int) := by omega
            have kp4 : 1 ≤ K := by omega
            go_wp2_with fail
            go_region_law (first | (go_simp; go_at_call 14; (with_reducible refine (CD.out _ ?_).mono ?_); (focus (repeat (first | (with_reducible exact Below.refl _ _) | (with_reducible apply below_drew1) | (with_reducible apply below_drewN) | fail))); rintro e w5 ⟨GL, cL, rfl, gl1, gl2, rG, hb5⟩))
            all_goals
              have hB5 : Hid (Below w.heap.size w w5) := hB3.out.trans (((below_drew1 (Below.refl _ wr)).trans hb5).mono hB3.out.size)
              have hRf5 : Hid (Reads w5 (some ⟨gf, 0, none⟩) ((f0 :: F').map (Value.int .i64))) := (HRF.out.below (below_drew1 (Below.refl _ wr))).below hb5
              have c5 : w5.cell? ⟨gf, 0, none⟩ = some (.int .i64 f0) := reads_cell hRf5.out (i := 0) rfl
              have hFl : (f0 :: F').length = K := HFL.out
              have hT2 : T - 2 = K := by have := HT.out; omega
              have hT3 : 2 ≤ T ∧ T ≤ 11 := by have := HT.out; omega
              obtain ⟨A1, A2, A3, _⟩ := deal_sub (p := (q : Int)) (f := f0 :: F') (n := T) (by omega) (by omega) HPR.out (by omega) (by omega) 0 T (by omega)
              obtain ⟨B1, B2, B3, _⟩ := deal_sub (p := (q : Int)) (f := f0 :: F') (n := T) (by omega) (by omega) HPR.out (by omega) (by omega) 2 K (by omega)
              obtain ⟨C1, C2, C3, C4⟩ := deal_sub (p := (q : Int)) (f := f0 :: F') (n := T) (by omega) (by omega) HPR.out (by omega) (by omega) 1 K (by omega)
              obtain ⟨D1, D2, D3, _⟩ := deal_sub (p := (q : Int)) (f := f0 :: F') (n := T) (by omega) (by omega) HPR.out (by omega) (by omega) 0 K (by omega)
              have RA : Reads w5 (some ⟨GL, 0, none⟩) _ := pair_sub rG 0 T
              have RB : Reads w5 (some ⟨GL, 4, none⟩) _ := pair_sub rG 2 K
              have RC : Reads w5 (some ⟨GL, 2, none⟩) _ := pair_sub rG 1 K
              have RD : Reads w5 (some ⟨GL, 0, none⟩) _ := pair_sub rG 0 K
              obtain ⟨tr, htr⟩ : ∃ tr, trim (f0 :: F') = tr := ⟨_, rfl⟩
              obtain ⟨g, hg⟩ : ∃ g, tr.length = g := ⟨_, rfl⟩
              have hgK : g ≤ K := by rw [← hg, ← htr, length_trim, ← hFl]; exact tlen_le _
              have CA := Lib.hid (fun X (hX : Below w5.heap.size w5 X) => thr_on q (f0 :: F') _ T (some ⟨GL, 0, none⟩) cL X A1 HPW.out A3 gl1 (RA.below hX) HIN.out (by omega) A2 htr hg)
              have CB := Lib.hid (fun X (hX : Below w5.heap.size w5 X) => thr_on q (f0 :: F') _ K (some ⟨GL, 4, none⟩) (cL - 2) X B1 HPW.out B3 (by omega) (RB.below hX) HIN.out (by omega) B2 htr hg)
              have CJ := Lib.hid (fun X (hX : Below w5.heap.size w5 X) => secret_Join_on q (f0 :: F') _ K (some ⟨GL, 2, none⟩) (cL - 1) X C1 HPW.out C3 (by omega) (by omega) (RC.below hX) HIN.out (by omega) C2 C4)
              have CV := Lib.hid (fun X (hX : Below w5.heap.size w5 X) => points_At_on q (f0 :: F') _ x K (some ⟨GL, 0, none⟩) cL X D1 HPW.out HX.out D3 (by omega) (RD.below hX) HIN.out (by omega) D2)
              have CP := Lib.hid (fun X a k hr => polyAt_on q (f0 :: F') x a k X (by omega) (by omega) HPR.out HPW.out HX.out HIN.out (by omega) htr hg hr)
              have CS := Lib.hid (fun X (hX : Below w5.heap.size w5 X) => short_on (f0 :: F') K (some ⟨gf, 0, none⟩) cf X (by omega) hFl k1 k2 (fun h => by cases h) (hRf5.out.below hX) htr hg)
              have CE := Lib.hid (fun X a b ca cb hx hy => equal_on tr g a b ca cb X hg (by omega) hx hy)
              obtain ⟨Y, hY⟩ : ∃ Y, evp (x % (q : Int)) (f0 :: F') % (q : Int) = Y := ⟨_, rfl⟩
              have hz0 : co (f0 :: F') 0 = f0 := rfl
              rw [hY] at CV CP
              rw [hz0] at CJ
              obtain ⟨U, hU⟩ : ∃ U, K + 1 = U := ⟨_, rfl⟩
              have w4 : IntKind.i64.wrap ((K : Int) + 1) = (U : Int) := by rw [← hU]; push_cast; exact IntWalk.i64_in _ (by omega)
              have hU1 : U - 1 = K := by omega
              have q1 : (2 : Int) ≤ (T : Int) := by omega
              have q2 : 2 ≤ T := by omega
              have q3 : (1 : Int) ≤ (U : Int) := by omega
              have q4 : 1 ≤ U := by omega
              have q5 : (U : Int) ≤ (cL : Int) := by omega
              have q6 : U ≤ cL := by omega
              have q7 : (K : Int) ≤ (cL : Int) := by omega
              have q8 : K ≤ cL := by omega
              have q9 : ¬ cL = 2 := by omega
              have q0 : ¬ cL = 1 := by omega
              clear hY hz0 htr hg A1 A2 A3 B1 B2 B3 C1 C2 C3 C4 D1 D2 D3 RA RB RC RD hU rG hb5 hFl hRt CD HRF HIN HP2 HPW HFL HT hT3 hM c0 hgK
              go_wp2_with (first
                | (go_at_call 15; refine (top_works _).mono ?_; rintro e w6 ⟨rfl, b6⟩)
                | (go_at_call 16; with_reducible refine (CA.out _ b6).mono ?_; rintro e w7 ⟨a7, c7, rfl, s7, r7⟩; have b7 := b6.trans (s7.mono b6.size))
                | (go_at_call 16; with_reducible refine (CB.out _ b7).mono ?_; rintro e w8 ⟨a8, c8, rfl, s8, r8⟩; have b8 := b7.trans (s8.mono b7.size); have r78 := r7.below s8)
                | (go_at_call 17; with_reducible refine (CJ.out _ b8).mono ?_; rintro e w9 ⟨rfl, s9⟩; have b9 := b8.trans (s9.mono b8.size); have r79 := r78.below s9; have r89 := r8.below s9)
                | (go_at_call 18; with_reducible refine (CP.out _ a7 c7 r79).mono ?_; rintro e w10 ⟨rfl, s10⟩; have b10 := b9.trans (s10.mono b9.size); have r710 := r79.below s10; have r810 := r89.below s10)
                | (go_at_call 19; with_reducible refine (CV.out _ b10).mono ?_; rintro e w11 ⟨rfl, s11⟩; have b11 := b10.trans (s11.mono b10.size); have r711 := r710.below s11; have r811 := r810.below s11)
                | (go_at_call 20; refine (good_five _ _ _ (Lib.hid (reads_new w11 #[.int .i64 0, .int .i64 0, .int .i64 0, .int .i64 0, .int .i64 0] _))).mono ?_; rintro e w12 ⟨rfl, m12, hw12⟩; have s12 : Below w11.heap.size w11 w12 := by rw [hw12]; exact below_drewN ((Below.refl _ w11).alloc (Nat.le_refl _) _) m12
                   clear hw12; have b12 := b11.trans (s12.mono b11.size); have r712 := r711.below s12; have r812 := r811.below s12)
                | (go_at_call 21; with_reducible refine (CE.out _ a7 a8 c7 c8 r712 r812).mono ?_; rintro e w13 ⟨rfl, m13, hw13⟩; have s13 : Below w12.heap.size w12 w13 := by rw [hw13]; exact below_drewN (Below.refl _ _) m13
                   clear hw13; have b13 := b12.trans (s13.mono b12.size); have r713 := r712.below s13)
                | (go_at_call 22; with_reducible refine (CS.out _ b13).mono ?_; rintro e w14 ⟨a14, c14, rfl, s14, r14⟩; have b14 := b13.trans (s14.mono b13.size); have r714 := r713.below s14)
                | (go_at_call 21; with_reducible refine (CE.out _ a7 a14 c7 c14 r714 r14).mono ?_; rintro e w15 ⟨rfl, m15, hw15⟩; have s15 : Below w14.heap.size w14 w15 := by rw [hw15]; exact below_drewN (Below.refl _ _) m15
                   clear hw15; have b15 := b14.trans (s15.mono b14.size); have c15 := (b15.cell (World.block_lt_of_cell? _ _ c5)).trans c5)
                | fail)
              go_ret
              exact ⟨by simp, hB5.out.trans (b15.mono hB5.out.size)⟩
end Go.Proofs.Ytgdcmebhopjfaaa
