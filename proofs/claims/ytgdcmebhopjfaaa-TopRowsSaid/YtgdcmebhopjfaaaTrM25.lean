/- Contracts of package reed: Check, Put. -/
import Derived.Test.YtgdcmebhopjfaaaRows
import Derived.Test.YtgdcmebhopjfaaaTrM24
import Derived.Test.YtgdcmebhopjfaaaTrM14
import Derived.Test.YtgdcmebhopjfaaaTrM19
import Derived.Test.YtgdcmebhopjfaaaEuclid
import Derived.Test.YtgdcmebhopjfaaaTrM7
namespace Go.Proofs.Ytgdcmebhopjfaaa
open Go.RowKit

theorem i64Info : ElemRow Try.prog 3 (.int .i64 0) 1 8 := elemRow_of (by kernel_rfl) rfl (by omega)
/-- What Check answers of n cells and the number k, m cells being the most. -/
def chkE (m n : Nat) (k : Int) : Int := if m < n then 2 else if k < 1 ∨ (n : Int) < k then 1 else 0
set_option maxRecDepth 20000 in
theorem reed_Check (n : Nat) (k : Int) (ao : Option Addr) (cap : Nat) (w : World) :
    Calls Try.prog 122 #[.slice ao n cap, .int .i64 k] w fun e w' => e = .returned (.int .i64 (chkE 20 n k)) ∧ w = w' := by
  unfold chkE
  by_cases h : 20 < n
  · have d : decide ((20 : Int) < n) = true := by simp; omega
    rw [if_pos h]
    go_enter Try.func122, Try.ntmps122
    go_wp2_with fail
    go_ret
    exact ⟨rfl, rfl⟩
  · have d : decide ((20 : Int) < n) = false := by simp; omega
    rw [if_neg h]
    by_cases h1 : k < 1
    · have d1 : decide (k < 1) = true := decide_eq_true h1
      rw [if_pos (.inl h1)]
      go_enter Try.func122, Try.ntmps122
      go_wp2_with fail
      go_ret
      exact ⟨rfl, rfl⟩
    · have d1 : decide (k < 1) = false := decide_eq_false h1
      by_cases h2 : (n : Int) < k
      · have d2 : decide ((n : Int) < k) = true := decide_eq_true h2
        rw [if_pos (.inr h2)]
        go_enter Try.func122, Try.ntmps122
        go_wp2_with fail
        go_ret
        exact ⟨rfl, rfl⟩
      · have d2 : decide ((n : Int) < k) = false := decide_eq_false h2
        rw [if_neg (by omega)]
        go_enter Try.func122, Try.ntmps122
        go_wp2_with fail
        go_ret
        exact ⟨rfl, rfl⟩
def putE (n : Nat) (N : Int) : Int := if n < 1 ∨ 20 < n then 2 else if N < n ∨ 20 < N then 1 else 0
set_option maxRecDepth 20000 in
theorem reed_Put_bad (n : Nat) (N : Int) (ao : Option Addr) (cap : Nat) (w : World) (h : putE n N ≠ 0) :
    Calls Try.prog 55 #[.slice ao n cap, .int .i64 N] w fun e w' => e = .returned (.tuple #[.slice none 0 0, .int .i64 (putE n N)]) ∧ w = w' := by
  unfold putE at h ⊢
  by_cases h1 : n < 1
  · have d : decide ((n : Int) < 1) = true := by simp; omega
    rw [if_pos (.inl h1)]
    clear h
    go_enter Try.func55, Try.ntmps55
    go_wp2_with fail
    go_ret2
    exact ⟨rfl, rfl⟩
  · have d : decide ((n : Int) < 1) = false := by simp; omega
    by_cases h2 : 20 < n
    · have d2 : decide ((20 : Int) < n) = true := by simp; omega
      rw [if_pos (.inr h2)]
      clear h
      go_enter Try.func55, Try.ntmps55
      go_wp2_with fail
      go_ret2
      exact ⟨rfl, rfl⟩
    · have d2 : decide ((20 : Int) < n) = false := by simp; omega
      rw [if_neg (by omega)] at h ⊢
      by_cases h3 : N < n
      · have d3 : decide (N < (n : Int)) = true := decide_eq_true h3
        rw [if_pos (.inl h3)]
        clear h
        go_enter Try.func55, Try.ntmps55
        go_wp2_with fail
        go_ret2
        exact ⟨rfl, rfl⟩
      · have d3 : decide (N < (n : Int)) = false := decide_eq_false h3
        have h4 : 20 < N := by
          rcases Int.lt_or_le 20 N with h4 | h4
          · exact h4
          · rw [if_neg (by omega)] at h; exact absurd rfl h
        have d4 : decide (20 < N) = true := decide_eq_true h4
        rw [if_pos (.inr h4)]
        clear h
        go_enter Try.func55, Try.ntmps55
        go_wp2_with fail
        go_ret2
        exact ⟨rfl, rfl⟩
def PutPost (ys : Nat → GF) (k n : Nat) (w : World) (e : Ending) (w' : World) : Prop :=
  ∃ g cap, e = .returned (.tuple #[.slice (some ⟨g, 0, none⟩) n cap, .int .i64 0]) ∧ Own w' w.heap.size 5 g n cap (gfV fun j => lag gf ys k (gf j)) ∧ Below w.heap.size w w'
set_option maxRecDepth 20000 in
set_option maxHeartbeats 1000000 in
theorem reed_Put (ys : Nat → GF) (n N : Nat) (ao : Option Addr) (cap : Nat) (w : World) (h1 : 1 ≤ n) (h2 : n ≤ N) (h3 : N ≤ 20) (hy : Hid (Reads w ao (rowF n (gfV ys)))) :
    Calls Try.prog 55 #[.slice ao n cap, .int .i64 N] w (PutPost ys n N w) := by
  have d1 : decide ((n : Int) < 1) = false := by simp; omega
  have d2 : decide ((20 : Int) < n) = false := by simp; omega
  have d3 : decide ((N : Int) < n) = false := by simp; omega
  have d4 : decide ((20 : Int) < N) = false := by simp; omega
  have d5 : decide (N < n) = false := by simp; omega
  go_enter Try.func55, Try.ntmps55
  go_wp2_with fail
  go_loopw [6, 7, 28] (fun vo _ vx wr => ∃ x : Nat, vx = .int .i64 x ∧ x ≤ n ∧ Hid (wr.ownsRow w.heap.size 3 1 vo x (rowF x (giV gf))) ∧ Hid (Below w.heap.size w wr)) (fun _ _ vx _ => n - (intOf vx).toNat)
  case atStart => exact ⟨0, rfl, by omega, World.ownsRow_nil _ _ _ _, Below.refl _ _⟩
  case round =>
    obtain ⟨x, rfl, hxn, hrow, hb⟩ := hrel
    by_cases hx1 : x < n
    · have hv : Hid (Value.int .i64 (x : Int) = giV gf x) := by
        show _ = _
        unfold giV
        rw [gf_val (by omega)]
      go_wp2_with (at_builtin; go_must (refine app_one rfl (.tmp 31) (.tmp 33) _ rfl w.heap.size 3 _ 1 8 Try.underlying22 i64Info u6 x (rowF x (giV gf)) (by rfl) hrow.out [.int .i64 (x : Int)] (by rfl) rfl (by intro u hu; simp at hu; subst hu; rfl) (by unfold maxLen; omega) (by omega) hb.out.size ?_); intro v2 w2 hown2 hgr2 hb3)
      have hrow3 : Hid (w2.ownsRow w.heap.size 3 1 v2 (x + 1) (rowF (x + 1) (giV gf))) := by
        show World.ownsRow _ _ _ _ _ _ _
        rw [rowF_succ, ← hv.out]; exact hown2
      have hb4 := Lib.hid (hb.out.trans hb3)
      clear hown2 hgr2 hb3
      go_roundw
      case rel => exact ⟨x + 1, by go_num, by omega, hrow3, hb4⟩
      case measure => simp [intOf]; omega
    · have hx2 : x = n := by omega
      obtain ⟨ao2, cp2, hv2, hR2, hn2, hm2⟩ := own_reads hrow.out
      rw [hx2] at hR2 hv2
      subst hv2
      have HR := Lib.hid hR2
      have HY := Lib.hid (hy.out.below hb.out)
      clear hR2 hn2 hm2 hx2
      go_wp2_with fail
      refine (reed_Row gf ys n N ao2 ao cp2 cap wr (by omega) (by omega) HR HY).mono ?_
      rintro e w' ⟨g, cp3, rfl, hO, hb3⟩
      have HO : Hid (Own w' w.heap.size 5 g N cp3 (gfV fun j => lag gf ys n (gf j))) := by
        have := own_mono hO hb.out.size
        exact this
      have HB := Lib.hid (hb.out.trans (Below.mono hb3 hb.out.size))
      clear hO hb3
      go_wp2_with fail
      go_ret2
      exact ⟨g, cp3, rfl, HO.out, HB.out⟩
end Go.Proofs.Ytgdcmebhopjfaaa
namespace Go.Proofs.Ytgdcmebhopjfaaa
open Go.RowKit

theorem keep_Within (k n : Int) (w : World) (hk : -9223372036854775808 ≤ k) (hk' : k ≤ 9223372036854775807) (hn : 1 ≤ n) (hn' : n ≤ 1000000000) :
    Calls Try.prog 12 #[.int .i64 k, .int .i64 n] w fun e w' => e = .returned (.int .i64 (k % n)) ∧ ∃ m, w' = w.drewN m := by
  go_enter Try.func12, Try.ntmps12
  go_wp2_with (go_at_call 75; refine (ref_Rest k n _ hk hk' hn hn').mono ?_; rintro e w' ⟨rfl, m, rfl⟩)
  go_ret
  exact ⟨rfl, _, rfl⟩
theorem good1 (x : Int) (w : World) : Calls Try.prog 90 #[.int .i64 x] w fun e w' => e = .returned (.bool (x != 0)) ∧ w = w' := by
  go_enter Try.func90, Try.ntmps90
  go_wp2_with fail
  go_ret
  exact ⟨rfl, rfl⟩
theorem hfnG : ∀ (x : Value) (W : World), (callFunc 90 #[x]).run Try.prog W = .ok (.enter 90 #[x]) W := by
  intro x W
  show (_ : Result _) = _
  kernel_rfl
theorem good_three (ao : Option Addr) (cap : Nat) (w : World) (hR : Hid (Reads w ao [.int .i64 0, .int .i64 0, .int .i64 0])) :
    Calls Try.prog 20 #[.slice ao 3 cap] w fun e w' => e = .returned (.bool true) ∧ ∃ m, w' = w.drewN m := by
  have h := containsFunc_err 90 hfnG (fun x => x != 0) [0, 0, 0] ao cap w (by simp) hR (Lib.hid fun x _ n => (good1 x _).mono fun e w' hh => ⟨hh.1, 0, hh.2.symm⟩)
  have e : ([0, 0, 0] : List Int).any (fun x => x != 0) = false := by decide
  rw [e] at h
  have HC := Lib.hid h
  clear h e
  go_enter Try.func20, Try.ntmps20
  go_wp2_with fail
  refine HC.out.mono ?_
  rintro e w' ⟨rfl, m, rfl⟩
  go_wp2_with fail
  go_ret
  exact ⟨rfl, m, rfl⟩
theorem good_two (ao : Option Addr) (cap : Nat) (w : World) (hR : Hid (Reads w ao [.int .i64 0, .int .i64 0])) :
    Calls Try.prog 20 #[.slice ao 2 cap] w fun e w' => e = .returned (.bool true) ∧ ∃ m, w' = w.drewN m := by
  have h := containsFunc_err 90 hfnG (fun x => x != 0) [0, 0] ao cap w (by simp) hR (Lib.hid fun x _ n => (good1 x _).mono fun e w' hh => ⟨hh.1, 0, hh.2.symm⟩)
  have e : ([0, 0] : List Int).any (fun x => x != 0) = false := by decide
  rw [e] at h
  have HC := Lib.hid h
  clear h e
  go_enter Try.func20, Try.ntmps20
  go_wp2_with fail
  refine HC.out.mono ?_
  rintro e w' ⟨rfl, m, rfl⟩
  go_wp2_with fail
  go_ret
  exact ⟨rfl, m, rfl⟩
def w57 (j : Nat) : GF := gf (if j = 0 then 5 else 7)
theorem works_row : (lag gf w57 2 (gf 2)).val = 1 := by decide +kernel
set_option maxRecDepth 20000 in
theorem top_works (w : World) : Calls Try.prog 15 #[] w fun e w' => e = .returned (.bool true) ∧ Below w.heap.size w w' := by
  have HG := Lib.hid (fun W => euclid_Gcd 12 18 W (by omega) (by omega) (by omega) (by omega))
  have eg : gI 12 18 = 6 := by decide
  rw [eg] at HG
  have HP := Lib.hid (fun W ao (hy : Reads W ao (rowF 2 (gfV w57))) => reed_Put w57 2 3 ao 2 W (by omega) (by omega) (by omega) (Lib.hid hy))
  have e57 : rowF 2 (gfV w57) = [.int .u8 5, .int .u8 7] := by rfl
  clear eg
  go_enter Try.func15, Try.ntmps15
  go_wp2_with fail
  refine (HG.out _).mono ?_
  rintro e w1 ⟨rfl, q, rfl⟩
  go_wp2_with fail
  refine (HP.out _ _ (by rw [e57]; exact reads_new (w.drewN q) #[.int .u8 5, .int .u8 7] _)).mono ?_
  rintro e w2 ⟨g, cp, rfl, hO, hb2⟩
  have c2 := hO.cell (i := 2) (by omega)
  have hv : gfV (fun j => lag gf w57 2 (gf j)) 2 = .int .u8 1 := by unfold gfV; rw [works_row]; rfl
  rw [hv] at c2
  have HB2 : Hid (Below w.heap.size w w2) := (Below.alloc (below_dr w.heap.size w q) (Nat.le_refl _) _).trans (Below.mono hb2 (by simp))
  clear hO hb2 hv HP HG
  go_wp2_with fail
  go_ret
  exact ⟨by simp, HB2.out⟩
end Go.Proofs.Ytgdcmebhopjfaaa
namespace Go.Proofs.Ytgdcmebhopjfaaa
open Go.RowKit

set_option maxRecDepth 20000 in
set_option maxHeartbeats 400000 in
theorem index_u8 (x : Int) (zs : List Int) (len : Nat) (ao : Option Addr) (cap : Nat) (w : World) (hlen : zs.length = len) (hl : len ≤ 9223372036854775807) (hR : Hid (Reads w ao (zs.map (Value.int .u8)))) :
    Calls Try.prog 120 #[.slice ao len cap, .int .u8 x] w fun e w' => e = .returned (.int .i64 (idxA (fun y => x == y) zs)) ∧ ∃ n, w' = w.drewN n := by
  have HL := Lib.hid hlen
  clear hlen
  go_enter Try.func120, Try.ntmps120
  go_wp2_with fail
  go_loopw [8] (fun vi wr => ∃ k : Nat, vi = .int .i64 k ∧ k ≤ len ∧ Hid (∀ j y, j < k → zs[j]? = some y → (x == y) = false) ∧ ∃ n, wr = w.drewN n) (fun vi _ => len - (intOf vi).toNat)
  case atStart => exact ⟨0, rfl, by omega, by intro j y hj; omega, 0, rfl⟩
  case round =>
    obtain ⟨k, rfl, hk, hno, n, rfl⟩ := hrel
    by_cases hkl : k < len
    · obtain ⟨y, hy⟩ : ∃ y, zs[k]? = some y := ⟨zs[k]'(by rw [HL.out]; exact hkl), List.getElem?_eq_getElem _⟩
      obtain ⟨b, o, rfl, hc⟩ := hR.out k (.int .u8 y) (by simp [hy])
      have HY := Lib.hid hy
      clear hy
      have i0 : (0 : Int) ≤ (k : Int) := by omega
      have i1 : (k : Int) < (len : Int) := by omega
      cases hp : (x == y) with
      | true =>
        go_wp2_with fail
        go_ret
        exact ⟨ret_int (idxA_some HY.out (by simpa using hp) hno.out).symm, by first | exact ⟨_, rfl⟩ | exact dr2 _ _ _⟩
      | false =>
        have HP := Lib.hid hp
        go_wp2_with fail
        go_roundw
        case rel => exact ⟨k + 1, by go_num, by omega, by
          intro j z hj hz
          by_cases he : j = k
          · subst he; rw [HY.out] at hz; cases hz; exact HP.out
          · exact hno.out j z (by omega) hz, by first | exact ⟨_, rfl⟩ | exact dr2 _ _ _⟩
        case measure => simp [intOf]; omega
    · obtain rfl : k = len := by omega
      go_wp2
      go_ret
      refine ⟨ret_int (idxA_none fun z hz => ?_).symm, _, rfl⟩
      obtain ⟨j, hj⟩ := List.getElem?_of_mem hz
      have := (List.getElem?_eq_some_iff.1 hj).1
      exact hno.out j z (by have := HL.out; omega) hj
theorem contains_u8 (x : Int) (zs : List Int) (len : Nat) (ao : Option Addr) (cap : Nat) (w : World) (hlen : zs.length = len) (hl : len ≤ 9223372036854775807) (hR : Hid (Reads w ao (zs.map (Value.int .u8)))) :
    Calls Try.prog 53 #[.slice ao len cap, .int .u8 x] w fun e w' => e = .returned (.bool (decide (x ∈ zs))) ∧ ∃ n, w' = w.drewN n := by
  have C := Lib.hid (index_u8 x zs len ao cap w hlen hl hR)
  have hd : Hid (decide (0 ≤ idxA (fun y => x == y) zs) = decide (x ∈ zs)) := by
    show _ = _
    rw [idxA_nonneg]
    by_cases h : x ∈ zs
    · rw [decide_eq_true h, List.any_eq_true]
      exact ⟨x, h, by simp⟩
    · rw [decide_eq_false h, List.any_eq_false]
      intro y hy he
      have : x = y := by simpa using he
      exact h (this ▸ hy)
  clear hR hlen
  go_enter Try.func53, Try.ntmps53
  go_wp2_with (go_at_call 120; refine C.out.mono ?_; rintro e w' ⟨rfl, n, rfl⟩)
  go_ret
  exact ⟨ret_bool hd.out, _, rfl⟩
end Go.Proofs.Ytgdcmebhopjfaaa
