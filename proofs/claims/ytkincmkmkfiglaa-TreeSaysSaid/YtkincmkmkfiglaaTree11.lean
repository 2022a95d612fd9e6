/- Contract of the reference's ComesTo. -/
import Derived.Test.YtkincmkmkfiglaaRows
import Derived.Test.YtkincmkmkfiglaaTree9
namespace Go.Proofs.Ytkincmkmkfiglaa
open Go.RowKit

theorem uL_take (l : List Nat) (k : Nat) : uL (l.take k) = (uL l).take k := List.map_take
set_option maxRecDepth 20000 in
set_option maxHeartbeats 2000000 in
theorem ref_ComesTo : ∀ (f n k x : Nat) (p : List Nat) (ao : Option Addr) (len cap : Nat) (w : World), 1 ≤ n → n ≤ 16 → n ≤ f → k < n → x < 18446744073709551616 → p.length = len → len ≤ cap → cap ≤ 9223372036854775807 → Hid (∀ x ∈ p, x < 18446744073709551616) → Hid (Reads w ao (uL p)) →
    Calls Try.prog 49 #[.int .i64 n, .int .i64 k, .int .u64 x, .slice ao len cap] w fun e w' => (e = .returned (.tuple #[.int .u64 ((comesF nodeN f n k x p).1 : Nat), .bool (comesF nodeN f n k x p).2]) ∧ (comesF nodeN f n k x p).1 < 18446744073709551616) ∧ w = w' := by
  intro f
  induction f with
  | zero => intro n k x p ao len cap w h1 h2 h3; omega
  | succ f ih =>
    intro n k x p ao len cap w h1 h16 hf hk hx hl hc hc63 hb hR
    by_cases hn : n = 1
    · subst hn
      have e1 : comesF nodeN (f + 1) 1 k x p = (x, p.isEmpty) := by simp only [comesF, if_true]
      rw [e1]
      have e2 : Hid (p.isEmpty = ((len : Int) == 0)) := by
        show _ = _
        cases p with
        | nil => simp at hl; subst hl; rfl
        | cons a p => simp at hl; rw [Bool.eq_iff_iff]; simp; omega
      clear e1 ih
      go_enter Try.func49, Try.ntmps49
      go_wp2_with fail
      go_ret2
      rw [e2.out]
      exact ⟨⟨rfl, hx⟩, rfl⟩
    · by_cases hp : len = 0
      · subst hp
        have hnil : p = [] := List.eq_nil_of_length_eq_zero hl
        have e1 : comesF nodeN (f + 1) n k x p = (0, false) := by
          rw [hnil]
          simp only [comesF]
          rw [if_neg hn, if_pos trivial]
        rw [e1]
        clear e1 ih
        go_enter Try.func49, Try.ntmps49
        go_wp2_with fail
        go_ret2
        exact ⟨⟨rfl, by omega⟩, rfl⟩
      · have hbd := split_bd (n := n) (by omega)
        have HS := Lib.hid (ref_split n w (by omega) h16)
        obtain ⟨L, rfl⟩ : ∃ L, len = L + 1 := ⟨len - 1, by omega⟩
        obtain ⟨q, hq⟩ : ∃ q, p[L]? = some q := ⟨p[L]'(by omega), List.getElem?_eq_getElem _⟩
        have hqb := hb.out q (List.mem_of_getElem? hq)
        obtain ⟨b, o, rfl, cq⟩ := hR.out L _ (uL_get hq)
        have hdl : p.dropLast = p.take L := by rw [List.dropLast_eq_take, hl, Nat.add_sub_cancel]
        have hlast : p.getLastD 0 = q := by
          rw [List.getLastD_eq_getLast?, List.getLast?_eq_getElem?, hl, Nat.add_sub_cancel, hq, Option.getD_some]
        have hne : ¬ p = [] := by intro h; rw [h] at hl; simp at hl
        have ec : comesF nodeN (f + 1) n k x p = if k < splitN n then (nodeN (comesF nodeN f (splitN n) k x (p.take L)).1 q, (comesF nodeN f (splitN n) k x (p.take L)).2)
            else (nodeN q (comesF nodeN f (n - splitN n) (k - splitN n) x (p.take L)).1, (comesF nodeN f (n - splitN n) (k - splitN n) x (p.take L)).2) := by
          simp only [comesF]
          rw [if_neg hn, if_neg hne, hdl, hlast]
        rw [ec]
        obtain ⟨m, hm⟩ : ∃ m, splitN n = m := ⟨_, rfl⟩
        rw [hm] at hbd HS ⊢
        have HBT : Hid (∀ x ∈ p.take L, x < 18446744073709551616) := Lib.hid fun x h => hb.out x (List.mem_of_mem_take h)
        have HRT : Hid (Reads w (some ⟨b, o, none⟩) (uL (p.take L))) := Lib.hid (by rw [uL_take]; exact hR.out.take L)
        have w1 : IntKind.i64.wrap (((L + 1 : Nat) : Int) - 1) = (L : Int) := by rw [show ((L + 1 : Nat) : Int) - 1 = (L : Int) by omega]; exact IntWalk.i64_in _ (by omega)
        have z1 : ¬ (((L + 1 : Nat) : Int) = 0) := by omega
        by_cases hkm : k < m
        · rw [if_pos hkm]
          have HC := Lib.hid (ih m k x (p.take L) (some ⟨b, o, none⟩) L cap w (by omega) (by omega) (by omega) hkm hx (by rw [List.length_take]; omega) (by omega) hc63 HBT HRT)
          obtain ⟨R, hR2⟩ : ∃ R, comesF nodeN f m k x (p.take L) = R := ⟨_, rfl⟩
          rw [hR2] at HC ⊢
          obtain ⟨y, ok⟩ := R
          dsimp only at HC ⊢
          have HN := Lib.hid fun (hy : y < 18446744073709551616) => ref_NodeOf y q w hy hqb
          have hnb := nodeN_lt y q
          obtain ⟨t, ht⟩ : ∃ t, nodeN y q = t := ⟨_, rfl⟩
          rw [ht] at HN hnb ⊢
          clear ec hm hR2 ht hdl hlast hne hq ih
          go_enter Try.func49, Try.ntmps49
          go_wp2_with fail
          refine HS.out.mono ?_
          rintro e w' ⟨rfl, rfl⟩
          go_wp2_with fail
          refine HC.out.mono ?_
          rintro e w' ⟨⟨rfl, hy⟩, rfl⟩
          go_wp2_with fail
          refine (HN.out hy).mono ?_
          rintro e w' ⟨rfl, rfl⟩
          go_wp2_with fail
          go_ret2
          exact ⟨⟨rfl, hnb⟩, rfl⟩
        · rw [if_neg hkm]
          have HC := Lib.hid (ih (n - m) (k - m) x (p.take L) (some ⟨b, o, none⟩) L cap w (by omega) (by omega) (by omega) (by omega) hx (by rw [List.length_take]; omega) (by omega) hc63 HBT HRT)
          obtain ⟨R, hR2⟩ : ∃ R, comesF nodeN f (n - m) (k - m) x (p.take L) = R := ⟨_, rfl⟩
          rw [hR2] at HC ⊢
          obtain ⟨y, ok⟩ := R
          dsimp only at HC ⊢
          have HN := Lib.hid fun (hy : y < 18446744073709551616) => ref_NodeOf q y w hqb hy
          have hnb := nodeN_lt q y
          obtain ⟨t, ht⟩ : ∃ t, nodeN q y = t := ⟨_, rfl⟩
          rw [ht] at HN hnb ⊢
          obtain ⟨d, hd⟩ : ∃ d, k - m = d := ⟨_, rfl⟩
          obtain ⟨g, hg⟩ : ∃ g, n - m = g := ⟨_, rfl⟩
          rw [hd, hg] at HC
          have wd : IntKind.i64.wrap ((k : Int) - m) = (d : Int) := by rw [show (k : Int) - m = (d : Int) by omega]; exact IntWalk.i64_in _ (by omega)
          have wg : IntKind.i64.wrap ((n : Int) - m) = (g : Int) := by rw [show (n : Int) - m = (g : Int) by omega]; exact IntWalk.i64_in _ (by omega)
          have ed : (k : Int) - m = (d : Int) := by omega
          have eg : (n : Int) - m = (g : Int) := by omega
          clear ec hm hR2 ht hdl hlast hne hq ih hd hg
          go_enter Try.func49, Try.ntmps49
          go_wp2_with fail
          refine HS.out.mono ?_
          rintro e w' ⟨rfl, rfl⟩
          go_wp2_with fail
          refine HC.out.mono ?_
          rintro e w' ⟨⟨rfl, hy⟩, rfl⟩
          go_wp2_with fail
          refine (HN.out hy).mono ?_
          rintro e w' ⟨rfl, rfl⟩
          go_wp2_with fail
          go_ret2
          exact ⟨⟨rfl, hnb⟩, rfl⟩
end Go.Proofs.Ytkincmkmkfiglaa
