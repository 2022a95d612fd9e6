/- LAGRANGE's and NEWTON's polynomials are one; the field of 256 elements as a type. Plain algebra. -/
import Derived.Test.YtioecklnijhjgaaFld
import Derived.Test.YtioecklnijhjgaaPlM3
import Derived.Test.YtioecklnijhjgaaRows
import Derived.Test.YtioecklnijhjgaaPlM2
import Derived.Test.YtioecklnijhjgaaPlM4
import Derived.Test.YtioecklnijhjgaaRefField
set_option linter.unusedVariables false
set_option linter.unusedSimpArgs false
namespace Go.Proofs.Ytioecklnijhjgaa
set_option linter.unusedSectionVars false

section
variable {α : Type} [Add α] [Mul α] [Neg α] [Zero α] [One α] [Inv α] (F : Fld α)
include F
omit F in
/-- y times (x - q) / (p - q) of the first m places but i. -/
def lagT (xs : Nat → α) (y : α) (i : Nat) (x : α) : Nat → α
  | 0 => y
  | m + 1 => if m = i then lagT xs y i x m else lagT xs y i x m * ((x + -xs m) * (xs i + -xs m)⁻¹)
omit F in
/-- LAGRANGE's value: the terms of the first m places, of k. -/
def lagS (xs ys : Nat → α) (k : Nat) (x : α) : Nat → α
  | 0 => 0
  | i + 1 => lagS xs ys k x i + lagT xs (ys i) i x k
omit F in
def lag (xs ys : Nat → α) (k : Nat) (x : α) : α := lagS xs ys k x k

theorem lagT_poly (xs : Nat → α) (y : α) (i : Nat) (m : Nat) : PolyF (if i < m then m else m + 1) (fun x => lagT xs y i x m) := by
  induction m with
  | zero => simp only [Nat.not_lt_zero, if_false]; exact PolyF.const F y
  | succ m ih =>
    have key : ∀ {k : Nat}, PolyF k (fun x => lagT xs y i x m) → PolyF (k + 1) (fun x => lagT xs y i x m * ((x + -xs m) * (xs i + -xs m)⁻¹)) := by
      intro k h
      refine (PolyF.smul F (xs i + -xs m)⁻¹ (PolyF.lin F (-xs m) h)).ext fun x => ?_
      rw [F.mul_comm, F.mul_comm (x + -xs m), F.mul_assoc]
    by_cases h : m = i
    · subst h
      rw [if_neg (by omega)] at ih
      rw [if_pos (by omega)]
      exact ih.ext fun x => by simp [lagT]
    · have e : ∀ x, lagT xs y i x m * ((x + -xs m) * (xs i + -xs m)⁻¹) = lagT xs y i x (m + 1) := fun x => by simp [lagT, h]
      by_cases h2 : i < m
      · rw [if_pos h2] at ih
        rw [if_pos (by omega)]
        exact (key ih).ext e
      · rw [if_neg h2] at ih
        rw [if_neg (by omega)]
        exact (key ih).ext e
theorem lagT_other (xs : Nat → α) (y : α) {i j m : Nat} (hij : j ≠ i) (hj : j < m) : lagT xs y i (xs j) m = 0 := by
  induction m with
  | zero => omega
  | succ m ih =>
    simp only [lagT]
    by_cases h : m = j
    · subst h
      rw [if_neg hij, F.add_neg, F.zero_mul, F.mul_zero]
    · split
      · exact ih (by omega)
      · rw [ih (by omega), F.zero_mul]
theorem lagT_self (xs : Nat → α) (y : α) {i m : Nat} (hd : ∀ j, j < m → j ≠ i → xs i ≠ xs j) : lagT xs y i (xs i) m = y := by
  induction m with
  | zero => rfl
  | succ m ih =>
    have h2 := ih (fun j h1 h2 => hd j (by omega) h2)
    simp only [lagT]
    split
    · exact h2
    · rename_i h
      rw [h2, F.mul_inv _ (F.sub_ne_zero (hd m (by omega) h)), F.mul_one]
theorem lagS_poly (xs ys : Nat → α) {k m : Nat} (hm : m ≤ k) : PolyF k (fun x => lagS xs ys k x m) := by
  induction m with
  | zero => exact PolyF.zero F k
  | succ m ih =>
    have h := lagT_poly F xs (ys m) m k
    rw [if_pos (by omega)] at h
    exact PolyF.add F (ih (by omega)) h
theorem lagS_at (xs ys : Nat → α) {k m j : Nat} (hm : m ≤ k) (hj : j < k) (hd : ∀ i j, i < k → j < k → i ≠ j → xs i ≠ xs j) : lagS xs ys k (xs j) m = if j < m then ys j else 0 := by
  induction m with
  | zero => rfl
  | succ m ih =>
    simp only [lagS]
    rw [ih (by omega)]
    by_cases h : j = m
    · subst h
      rw [if_neg (by omega), if_pos (by omega), F.zero_add, lagT_self F xs (ys j) (fun i h1 h2 => hd j i hj h1 (Ne.symm h2))]
    · rw [lagT_other F xs (ys m) h hj, F.add_zero]
      by_cases h2 : j < m
      · rw [if_pos h2, if_pos (by omega)]
      · rw [if_neg h2, if_neg (by omega)]
theorem lag_at (xs ys : Nat → α) {k j : Nat} (hj : j < k) (hd : ∀ i j, i < k → j < k → i ≠ j → xs i ≠ xs j) : lag xs ys k (xs j) = ys j := by
  unfold lag; rw [lagS_at F xs ys (Nat.le_refl k) hj hd, if_pos hj]
theorem lag_poly (xs ys : Nat → α) (k : Nat) : PolyF k (lag xs ys k) := lagS_poly F xs ys (Nat.le_refl k)
theorem lag_newt (xs ys : Nat → α) (n : Nat) (hd : ∀ i j, i < n + 1 → j < n + 1 → i ≠ j → xs i ≠ xs j) (x : α) : newt xs ys 0 n x = lag xs ys (n + 1) x := by
  refine PolyF.agree F (Lead.poly F (newt_lead F xs ys 0 n)) (lag_poly F xs ys (n + 1)) (rs := places xs 0 (n + 1)) (by rw [places_len]; omega) (places_nodup fun i j h1 h2 => hd i j (by omega) (by omega) (by omega)) (fun r hr => ?_) x
  obtain ⟨j, hj, rfl⟩ := mem_places.1 hr
  rw [newt_at F xs ys n 0 (fun i j h1 h2 => hd i j (by omega) (by omega) (by omega)) j (by omega), Nat.zero_add, lag_at F xs ys hj hd]
omit F in
/-- HORNER's road through Newton's form, from place j on, c places. -/
def horN (xs d : Nat → α) (x : α) : Nat → Nat → α
  | _, 0 => 0
  | j, c + 1 => horN xs d x (j + 1) c * (x + -xs j) + d j
theorem newt_hor (xs ys : Nat → α) (x : α) (n : Nat) : newt xs ys 0 n x = horN xs (fun j => dd xs ys j j) x 0 (n + 1) := by
  have key : ∀ (c j : Nat), newt xs ys 0 j x + prodR (places xs 0 (j + 1)) x * horN xs (fun j => dd xs ys j j) x (j + 1) c = newt xs ys 0 (j + c) x := by
    intro c
    induction c with
    | zero => intro j; simp only [horN, Nat.add_zero]; rw [F.mul_zero, F.add_zero]
    | succ c ih =>
      intro j
      rw [show j + (c + 1) = j + 1 + c by omega, ← ih (j + 1)]
      simp only [horN, newt]
      rw [places_succ xs 0 (j + 1), prodR_snoc F, Nat.zero_add, Nat.zero_add, F.mul_add, F.add_assoc]
      congr 1
      rw [F.add_comm, F.mul_comm (dd xs ys (j + 1) (j + 1))]
      congr 1
      rw [F.mul_assoc, F.mul_comm (x + -xs (j + 1))]
  have h0 := key n 0
  rw [show 0 + n = n by omega] at h0
  rw [← h0]
  show _ = horN xs (fun j => dd xs ys j j) x 1 n * (x + -xs 0) + dd xs ys 0 0
  simp only [newt, places]
  have e : prodR (List.map (fun j => xs (0 + j)) (List.range (0 + 1))) x = x + -xs 0 := by
    simp only [Nat.zero_add, List.range_one, List.map_cons, List.map_nil, prodR]
    rw [F.mul_one]
  rw [e, F.add_comm, F.mul_comm]
/-- A polynomial of k numbers that takes given values is LAGRANGE's. -/
theorem lag_uniq {k : Nat} {f : α → α} (hf : PolyF k f) (xs ys : Nat → α) (hd : ∀ i j, i < k → j < k → i ≠ j → xs i ≠ xs j) (h : ∀ j, j < k → f (xs j) = ys j) (x : α) : lag xs ys k x = f x := by
  refine PolyF.agree F (lag_poly F xs ys k) hf (rs := places xs 0 k) (by rw [places_len]; omega) (places_nodup fun i j h1 h2 => hd i j (by omega) (by omega) (by omega)) (fun r hr => ?_) x
  obtain ⟨j, hj, rfl⟩ := mem_places.1 hr
  rw [Nat.zero_add, lag_at F xs ys hj hd, h j hj]
end

/-! ### The field of 256 elements -/
structure GF where
  val : Nat
  lt : val < 256
theorem GF.ext {a b : GF} (h : a.val = b.val) : a = b := by
  cases a; cases b; simp only at h; subst h; rfl
instance : Add GF := ⟨fun a b => ⟨a.val ^^^ b.val, xor_lt256 a.lt b.lt⟩⟩
instance : Mul GF := ⟨fun a b => ⟨gmul a.val b.val, gmul_lt a.lt⟩⟩
instance : Neg GF := ⟨fun a => a⟩
instance : Zero GF := ⟨⟨0, by omega⟩⟩
instance : One GF := ⟨⟨1, by omega⟩⟩
instance : Inv GF := ⟨fun a => ⟨ginv a.val, ginv_lt a.lt⟩⟩
theorem GF.add_val (a b : GF) : (a + b).val = a.val ^^^ b.val := rfl
theorem GF.sub_val (a b : GF) : (a + -b).val = a.val ^^^ b.val := rfl
theorem GF.mul_val (a b : GF) : (a * b).val = gmul a.val b.val := rfl
theorem GF.inv_val (a : GF) : (a⁻¹).val = ginv a.val := rfl
theorem GF.zero_val : (0 : GF).val = 0 := rfl
theorem GF.one_val : (1 : GF).val = 1 := rfl
theorem gfld : Fld GF where
  add_assoc a b c := GF.ext (Nat.xor_assoc _ _ _)
  add_comm a b := GF.ext (Nat.xor_comm _ _)
  add_zero a := GF.ext (Nat.xor_zero _)
  add_neg a := GF.ext (Nat.xor_self _)
  mul_assoc a b c := GF.ext (gmul_assoc a.lt b.lt c.lt)
  mul_comm a b := GF.ext (gmul_comm a.lt b.lt)
  mul_one a := GF.ext (gmul_one a.lt)
  mul_add a b c := GF.ext (gmul_right _ _ _)
  mul_inv a h := GF.ext (gmul_ginv a.lt fun h0 => h (GF.ext h0))
  one_ne := fun h => by have := congrArg GF.val h; simp [GF.one_val, GF.zero_val] at this
def gf (n : Nat) : GF := ⟨n % 256, Nat.mod_lt _ (by omega)⟩
theorem gf_val {n : Nat} (h : n < 256) : (gf n).val = n := Nat.mod_eq_of_lt h
theorem gf_inj {a b : Nat} (ha : a < 256) (hb : b < 256) (h : gf a = gf b) : a = b := by
  have := congrArg GF.val h; rwa [gf_val ha, gf_val hb] at this
end Go.Proofs.Ytioecklnijhjgaa
namespace Go.Proofs.Ytioecklnijhjgaa

/-- Points: places below 256, no two the same. -/
def PtsG (L : List (Nat × Nat)) : Prop := (∀ a ∈ L, a.1 < 256 ∧ a.2 < 256) ∧ (L.map Prod.fst).Nodup
def ptX (L : List (Nat × Nat)) (j : Nat) : GF := gf (L.getD j (0, 0)).1
def ptY (L : List (Nat × Nat)) (j : Nat) : GF := gf (L.getD j (0, 0)).2
/-- The row's value through some points. -/
def rowV (L : List (Nat × Nat)) (x : GF) : GF := lag (ptX L) (ptY L) L.length x
theorem ptX_ne {L : List (Nat × Nat)} (h : PtsG L) : ∀ i j, i < L.length → j < L.length → i ≠ j → ptX L i ≠ ptX L j := by
  intro i j hi hj hij he
  unfold ptX at he
  rw [List.getD_eq_getElem?_getD, List.getD_eq_getElem?_getD, List.getElem?_eq_getElem hi, List.getElem?_eq_getElem hj] at he
  simp only [Option.getD_some] at he
  have h1 := gf_inj (h.1 _ (List.getElem_mem hi)).1 (h.1 _ (List.getElem_mem hj)).1 he
  have h2 := h.2
  rw [List.nodup_iff_pairwise_ne, List.pairwise_map, List.pairwise_iff_getElem] at h2
  rcases Nat.lt_or_ge i j with h3 | h3
  · exact h2 i j hi hj h3 h1
  · exact h2 j i hj hi (by omega) h1.symm
theorem rowV_poly (L : List (Nat × Nat)) : PolyF L.length (rowV L) := lag_poly gfld _ _ _
theorem rowV_at {L : List (Nat × Nat)} (h : PtsG L) {a : Nat × Nat} (ha : a ∈ L) : rowV L (gf a.1) = gf a.2 := by
  obtain ⟨j, hj, he⟩ := List.mem_iff_getElem.1 ha
  have h1 := lag_at gfld (ptX L) (ptY L) hj (ptX_ne h)
  unfold ptX ptY at h1
  rw [List.getD_eq_getElem?_getD, List.getElem?_eq_getElem hj] at h1
  simp only [Option.getD_some] at h1
  rw [he] at h1
  exact h1
/-- A polynomial of so many numbers that fits some points is their row. -/
theorem rowV_uniq {L : List (Nat × Nat)} (h : PtsG L) {f : GF → GF} (hf : PolyF L.length f) (hL : ∀ a ∈ L, f (gf a.1) = gf a.2) (x : GF) : rowV L x = f x := by
  refine lag_uniq gfld hf (ptX L) (ptY L) (ptX_ne h) (fun j hj => ?_) x
  unfold ptX ptY
  rw [List.getD_eq_getElem?_getD, List.getElem?_eq_getElem hj]
  simp only [Option.getD_some]
  exact hL _ (List.getElem_mem hj)
def fits (L P : List (Nat × Nat)) : Prop := ∀ a ∈ P, rowV L (gf a.1) = gf a.2
theorem fits_swap {L M P : List (Nat × Nat)} (hM : PtsG M) (hl : M.length = L.length) (hMP : ∀ a ∈ M, a ∈ P) (h : fits L P) : (∀ x, rowV M x = rowV L x) ∧ fits M P := by
  have h1 : ∀ x, rowV M x = rowV L x := rowV_uniq hM (by rw [hl]; exact rowV_poly L) fun a ha => h a (hMP a ha)
  exact ⟨h1, fun a ha => by rw [h1]; exact h a ha⟩
end Go.Proofs.Ytioecklnijhjgaa
namespace Go.Proofs.Ytioecklnijhjgaa
open Go.RowKit

theorem u8Info : ElemRow Try.prog 5 (.int .u8 0) 1 1 := elemRow_of (by kernel_rfl) rfl (by omega)
def ClonePost (base : Nat) (xs : List Value) (n : Nat) (w : World) (e : Ending) (w' : World) : Prop :=
  ∃ v, e = .returned v ∧ w'.ownsRow base 5 1 v n xs ∧ Below base w w'
set_option maxHeartbeats 1000000 in
set_option maxRecDepth 20000 in
theorem clone_u8 (n : Nat) (xs : List Value) (ao : Option Addr) (cap base : Nat) (w : World) (hn : n ≤ 1000000000) (hl : xs.length = n) (hnone : ao = none → n = 0 ∧ cap = 0) (hR : Hid (Reads w ao xs)) (h1 : Hid (∀ u ∈ xs, u.oneCell' = true)) (hb : base ≤ w.heap.size) :
    Calls Try.prog 87 #[.slice ao n cap] w (ClonePost base xs n w) := by
  have HL : Hid (xs.length = n * 1) := by show _ = _; omega
  have HN := Lib.hid hnone
  cases ao with
  | none =>
    obtain ⟨rfl, rfl⟩ := hnone rfl
    have hx : Hid (xs = []) := List.eq_nil_of_length_eq_zero hl
    have heq := Lib.run_eql_slice_nil (P := Try.prog) w 73 5 none 0 0 0 0 Try.underlying73
    clear hl hnone
    go_enter Try.func87, Try.ntmps87
    go_wp2_with fail
    go_ret
    refine ⟨_, rfl, ?_, Below.refl _ _⟩
    rw [hx.out]; exact World.ownsRow_nil _ _ _ _
  | some a =>
    have heq := Lib.run_eql_slice_nil (P := Try.prog) w 73 5 (some a) n cap 0 0 Try.underlying73
    clear hl hnone
    have hown : Hid ((w.alloc (.cells #[] 5)).ownsRow base 5 1 (.slice (some ⟨w.heap.size, 0, none⟩) 0 0) 0 []) := own_lit w base 5 [] hb (by unfold maxLen; simp)
    have hR2 : Hid (Reads (w.alloc (.cells #[] 5)) (some a) xs) := hR.out.alloc _
    have hbel : Hid (Below base w (w.alloc (.cells #[] 5))) := (Below.refl _ _).alloc hb _
    go_enter Try.func87, Try.ntmps87
    go_wp2_with (at_builtin; go_must (refine app_all rfl (.tmp 5) (.tmp 6) _ rfl base 5 _ 1 1 Try.underlying73 u8Info _ 0 [] (by rfl) hown.out (some a) n cap xs (by rfl) (fun h => by cases h) HL.out hR2.out h1.out (by unfold maxLen; omega) (by omega) (Nat.le_trans hb hbel.out.size) ?_); intro v2 w2 hown2 hgr2 hb2)
    go_ret
    refine ⟨v2, rfl, ?_, hbel.out.trans hb2⟩
    simpa using hown2
end Go.Proofs.Ytioecklnijhjgaa
namespace Go.Proofs.Ytioecklnijhjgaa
open Go.RowKit

theorem ginv_zero : ginv 0 = 0 := by unfold ginv; simp [gmul_zero]
theorem field_Inv_any (a : Nat) (w : World) (ha : a < 256) :
    Calls Try.prog 71 #[.int .u8 a] w fun e w' => (∃ E : Int, e = .returned (.tuple #[.int .u8 (ginv a : Nat), .int .i64 E])) ∧ w = w' := by
  by_cases h : a = 0
  · subst h
    refine (field_Inv_zero w).mono ?_
    rintro e w' ⟨rfl, rfl⟩
    exact ⟨⟨5, by rw [ginv_zero]; rfl⟩, rfl⟩
  · refine (field_Inv a w ha h).mono ?_
    rintro e w' ⟨rfl, rfl⟩
    exact ⟨⟨0, rfl⟩, rfl⟩
/-- Elements as bytes, and as ints. -/
def gfV (f : Nat → GF) (j : Nat) : Value := .int .u8 ((f j).val : Int)
def giV (f : Nat → GF) (j : Nat) : Value := .int .i64 ((f j).val : Int)
theorem wrap_u8 (a : Nat) (h : a < 256) : IntKind.u8.wrap (a : Int) = (a : Int) := by
  simp only [IntKind.wrap, IntKind.signed, IntKind.bits]
  simp
  omega
def RowPost (xs ys : Nat → GF) (k n : Nat) (w : World) (e : Ending) (w' : World) : Prop :=
  ∃ g cap, e = .returned (.slice (some ⟨g, 0, none⟩) n cap) ∧ Own w' w.heap.size 5 g n cap (gfV fun j => lag xs ys k (gf j)) ∧ Below w.heap.size w w'
/-- The row while its place x is made of i terms. -/
def rowX (xs ys : Nat → GF) (k x i : Nat) (j : Nat) : GF := if j < x then lag xs ys k (gf j) else if j = x then lagS xs ys k (gf x) i else 0
set_option maxRecDepth 100000 in
set_option maxHeartbeats 4000000 in
theorem reed_Row (xs ys : Nat → GF) (k n : Nat) (ao bo : Option Addr) (cap cap2 : Nat) (w : World) (hk : k ≤ 256) (hn : n ≤ 256) (hx : Hid (Reads w ao (rowF k (giV xs)))) (hy : Hid (Reads w bo (rowF k (gfV ys)))) :
    Calls Try.prog 54 #[.slice ao k cap, .slice bo k cap2, .int .i64 n] w (RowPost xs ys k n w) := by
  go_enter Try.func54, Try.ntmps54
  go_wp2_with (at_make; refine make_own rfl _ _ 73 rfl w.heap.size 5 _ 1 Try.underlying73 u8Info rfl _ _ _ _ n (by rfl) (by rfl) rfl rfl (by omega) (by unfold maxLen; omega) (Nat.le_refl _) ?_; intro w1 hown hg1)
  obtain ⟨g, hgs⟩ : ∃ g, w.heap.size = g := ⟨_, rfl⟩
  have hb1 : Hid (Below w.heap.size w w1) := below_of_grown hg1 (Nat.le_refl _) (by intro k hk; cases hk)
  have hO0 := hown.congr (f' := gfV (rowX xs ys k 0 0)) fun j _ => by
    unfold gfV rowX
    rw [if_neg (by omega)]
    split <;> rfl
  have hO1 : Hid (Own w1 w.heap.size 5 g n n (gfV (rowX xs ys k 0 0))) := by
    have e : Own w1 w.heap.size 5 w.heap.size n n (gfV (rowX xs ys k 0 0)) = Own w1 w.heap.size 5 g n n (gfV (rowX xs ys k 0 0)) := by rw [hgs]
    show Own _ _ _ _ _ _ _
    rw [← e]; exact hO0
  rw [hgs]
  clear hown hg1 hO0 hgs
  go_loopw [20] (fun vx wr => ∃ x : Nat, vx = .int .i64 x ∧ x ≤ n ∧ Hid (Own wr w.heap.size 5 g n n (gfV (rowX xs ys k x 0))) ∧ Hid (Below w.heap.size w wr)) (fun vx _ => n - (intOf vx).toNat)
  case atStart => exact ⟨0, rfl, by omega, hO1, hb1⟩
  case round =>
    obtain ⟨x, rfl, hxn, hO, hb⟩ := hrel
    by_cases hx1 : x < n
    · have hx2 : x < 256 := by omega
      go_wp2_with fail
      go_loopw [25] (fun vi wi => ∃ i : Nat, vi = .int .i64 i ∧ i ≤ k ∧ Hid (Own wi w.heap.size 5 g n n (gfV (rowX xs ys k x i))) ∧ Hid (Below w.heap.size w wi)) (fun vi _ => k - (intOf vi).toNat)
      case atStart => exact ⟨0, rfl, by omega, hO, hb⟩
      case round =>
        obtain ⟨i, rfl, hik, hO2, hb2⟩ := hrel
        by_cases hi1 : i < k
        · obtain ⟨b1, o1, rfl, c1⟩ := (hx.out.below hb2.out) i _ (rowF_get (giV xs) hi1)
          obtain ⟨b2, o2, rfl, c2⟩ := (hy.out.below hb2.out) i _ (rowF_get (gfV ys) hi1)
          obtain ⟨p, hp⟩ : ∃ p, (xs i).val = p := ⟨_, rfl⟩
          have hp1 : p < 256 := by rw [← hp]; exact (xs i).lt
          have hyi : (ys i).val < 256 := (ys i).lt
          unfold giV at c1
          unfold gfV at c2
          rw [hp] at c1
          have HP := Lib.hid hp
          have hX := Lib.hid (hx.out.below hb2.out)
          clear hp
          go_wp2_with fail
          go_loop [11, 36] (fun vt vm => ∃ m : Nat, vm = .int .i64 m ∧ m ≤ k ∧ ∃ t : Nat, vt = .int .u8 t ∧ t < 256 ∧ Hid (t = (lagT xs (ys i) i (gf x) m).val)) (fun _ vm => k - (intOf vm).toNat)
          case atStart => exact ⟨0, rfl, by omega, (ys i).val, rfl, hyi, rfl⟩
          case round =>
            obtain ⟨m, rfl, hmk, t, rfl, ht, hte⟩ := hrel
            by_cases hm1 : m < k
            · obtain ⟨b3, o3, ha3, c3⟩ := hX.out m _ (rowF_get (giV xs) hm1)
              injection ha3 with ha3
              injection ha3 with hb3 ho3
              subst hb3 ho3
              obtain ⟨q, hq⟩ : ∃ q, (xs m).val = q := ⟨_, rfl⟩
              have hq1 : q < 256 := by rw [← hq]; exact (xs m).lt
              unfold giV at c3
              rw [hq] at c3
              by_cases hmi : m = i
              · have e1 : ((m : Int) != (i : Int)) = false := by simp; omega
                have hnew : Hid (t = (lagT xs (ys i) i (gf x) (m + 1)).val) := by
                  show _ = _
                  rw [lagT, if_pos hmi]; exact hte.out
                have HM := Lib.hid hmi
                clear hmi hq
                go_wp2_with fail
                go_round
                case rel => exact ⟨m + 1, by go_num, by omega, t, rfl, ht, hnew⟩
                case measure => simp [intOf]; omega
              · have e1 : ((m : Int) != (i : Int)) = true := by simp; omega
                obtain ⟨pq, hpq⟩ : ∃ pq : Nat, p ^^^ q = pq := ⟨_, rfl⟩
                obtain ⟨xq, hxq⟩ : ∃ xq : Nat, x ^^^ q = xq := ⟨_, rfl⟩
                have hpq1 : pq < 256 := by rw [← hpq]; exact xor_lt256 hp1 hq1
                have hxq1 : xq < 256 := by rw [← hxq]; exact xor_lt256 hx2 hq1
                have e2 : bits .xor .i64 (p : Int) (q : Int) = (pq : Int) := by rw [i64_xor_nat p q (by omega) (by omega), hpq]
                have e3 : bits .xor .i64 (x : Int) (q : Int) = (xq : Int) := by rw [i64_xor_nat x q (by omega) (by omega), hxq]
                have e4 := wrap_u8 pq hpq1
                have e5 := wrap_u8 xq hxq1
                have hv1 := ginv_lt hpq1
                obtain ⟨iv, hiv⟩ : ∃ iv, ginv pq = iv := ⟨_, rfl⟩
                rw [hiv] at hv1
                obtain ⟨pr, hpr⟩ : ∃ pr, gmul xq iv = pr := ⟨_, rfl⟩
                have hpr1 : pr < 256 := by rw [← hpr]; exact gmul_lt hxq1
                obtain ⟨t2, ht2⟩ : ∃ t2, gmul t pr = t2 := ⟨_, rfl⟩
                have ht21 : t2 < 256 := by rw [← ht2]; exact gmul_lt ht
                have hnew : Hid (t2 = (lagT xs (ys i) i (gf x) (m + 1)).val) := by
                  show _ = _
                  rw [lagT, if_neg hmi, GF.mul_val, GF.mul_val, GF.inv_val, GF.sub_val, GF.sub_val, gf_val hx2, hq, HP.out, hpq, hxq, hiv, hpr, ← hte.out, ht2]
                have C1 := Lib.hid (field_Inv_any pq · hpq1)
                have C2 := Lib.hid (field_Mul xq iv · hxq1 hv1)
                have C3 := Lib.hid (field_Mul t pr · ht hpr1)
                rw [hiv] at C1
                rw [hpr] at C2
                rw [ht2] at C3
                clear hmi hq hpq hxq hiv hpr ht2
                go_wp2_with (first | (go_at_call 71; refine (C1.out _).mono ?_; rintro e w' ⟨⟨E, rfl⟩, rfl⟩) | (go_at_call 72; with_reducible refine (C2.out _).mono ?_; rintro e w' ⟨rfl, rfl⟩) | (go_at_call 72; refine (C3.out _).mono ?_; rintro e w' ⟨rfl, rfl⟩))
                go_round
                case rel => exact ⟨m + 1, by go_num, by omega, t2, rfl, ht21, hnew⟩
                case measure => simp [intOf]; omega
            · have hfin : Hid (t = (lagT xs (ys i) i (gf x) k).val) := by
                have : m = k := by omega
                show _ = _
                rw [hte.out, this]
              have c4 := hO2.out.cell hx1
              have f4 := hO2.out.frozen x
              obtain ⟨r, hr⟩ : ∃ r, (rowX xs ys k x i x).val = r := ⟨_, rfl⟩
              have hr1 : r < 256 := by rw [← hr]; exact GF.lt _
              unfold gfV at c4
              rw [hr] at c4
              obtain ⟨r2, hr2⟩ : ∃ r2, r ^^^ t = r2 := ⟨_, rfl⟩
              have e6 : bits .xor .u8 (r : Int) (t : Int) = (r2 : Int) := by rw [u8_xor_nat r t hr1 ht, hr2]
              have st := hO2.out.store x (.int .u8 (r2 : Int))
              have hO3 := Lib.hid (st.1.congr (f' := gfV (rowX xs ys k x (i + 1))) fun j _ => by
                unfold gfV
                by_cases hj : j = x
                · subst hj
                  rw [if_pos rfl, ← hr2, ← hr, hfin.out]
                  unfold rowX
                  rw [if_neg (Nat.lt_irrefl j), if_pos rfl, if_neg (Nat.lt_irrefl j), if_pos rfl]
                  rfl
                · rw [if_neg hj]
                  unfold rowX
                  rw [if_neg hj, if_neg hj])
              have hb3 := Lib.hid (hO2.out.belowStore hb2.out (Nat.le_refl _) x (.int .u8 (r2 : Int)))
              clear st hr hr2
              go_wp2_with fail
              go_roundw
              case rel => exact ⟨i + 1, by go_num, by omega, hO3, hb3⟩
              case measure => simp [intOf]; omega
        · have hO3 := Lib.hid (hO2.out.congr (f' := gfV (rowX xs ys k (x + 1) 0)) fun j _ => by
            have hik2 : i = k := by omega
            unfold gfV rowX
            by_cases hj : j < x
            · rw [if_pos hj, if_pos (by omega)]
            · rw [if_neg hj]
              by_cases hj2 : j = x
              · subst hj2
                rw [if_pos rfl, if_pos (by omega), hik2]; rfl
              · rw [if_neg hj2, if_neg (by omega)]
                split <;> rfl)
          go_wp2_with fail
          go_roundw
          case rel => exact ⟨x + 1, by go_num, by omega, hO3, hb2⟩
          case measure => simp [intOf]; omega
    · have hfin : Hid (RowPost xs ys k n w (.returned (.slice (some ⟨g, 0, none⟩) n n)) wr) := ⟨g, n, rfl, hO.out.congr fun j hj => by
        unfold gfV rowX
        rw [if_pos (by omega)], hb.out⟩
      go_wp2_with fail
      go_ret
      exact hfin.out
end Go.Proofs.Ytioecklnijhjgaa
