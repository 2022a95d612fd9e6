/- wholeref.DivisorsOf: the divisors of a number, in order, as a new list. -/
import Derived.Test.YtmeffbooabionaaRows
import Derived.Test.YtmeffbooabionaaPrime
import Derived.Test.YtmeffbooabionaaIrM23
import Derived.Test.YtmeffbooabionaaReverse
import Derived.Test.YtmeffbooabionaaMem2
set_option linter.unusedVariables false
set_option linter.unusedSimpArgs false
namespace Go.Proofs.Ytmeffbooabionaa
open Go.RowKit

theorem intInfo : ElemRow Try.prog 3 (.int .i64 0) 1 8 := elemRow_of (by kernel_rfl) rfl (by omega)
def natInts (l : List Nat) : List Value := l.map fun (n : Nat) => Value.int .i64 (n : Int)
def DvPost (n : Nat) (w : World) (e : Ending) (w' : World) : Prop :=
  ∃ v, e = .returned v ∧ w'.ownsRow w.heap.size 3 1 v (divs n).length (natInts (divs n)) ∧ Below w.heap.size w w'

theorem lows_len (n k : Nat) : (lows n k).length ≤ k := by
  unfold lows; exact Nat.le_trans (List.length_filter_le _ _) (by simp)
theorem highs_len (n k : Nat) : (highs n k).length ≤ k := by
  unfold highs; rw [List.length_map]; exact Nat.le_trans (List.length_filter_le _ _) (lows_len n k)
theorem natInts_append (l m : List Nat) : natInts (l ++ m) = natInts l ++ natInts m := by simp [natInts]
theorem ge_sq'' {n d : Nat} (h : d * d ≤ n) : (d : Int) * d ≤ (n : Int) := by
  have h2 : ((d * d : Nat) : Int) = (d : Int) * d := by push_cast; rfl
  omega
theorem lt_sq'' {n d : Nat} (h : d * d < n) : (d : Int) * d < (n : Int) := by
  have h2 : ((d * d : Nat) : Int) = (d : Int) * d := by push_cast; rfl
  omega
set_option maxRecDepth 100000 in
set_option maxHeartbeats 1000000 in
theorem ref_DivisorsOf (n : Nat) (w : World) (h1 : 1 ≤ n) (hn : n ≤ 1000000) :
    Calls Try.prog 55 #[.int .i64 n] w (DvPost n w) := by
  go_enter Try.func55, Try.ntmps55
  go_wp2_with fail
  go_loopw [3, 4, 5] (fun vl vh vd wr => ∃ d : Nat, vd = .int .i64 d ∧ 1 ≤ d ∧ d ≤ 1001 ∧ Hid (wr.ownsRow w.heap.size 3 1 vl (lows n d).length (natInts (lows n d))) ∧ Hid (wr.ownsRow w.heap.size 3 1 vh (highs n d).length (natInts (highs n d))) ∧ Hid (Apart vl vh) ∧ Hid (Below w.heap.size w wr) ∧ Hid (∀ e, e < d → e * e ≤ n)) (fun _ _ vd _ => 1001 - (intOf vd).toNat)
  case atStart =>
    have e1 : lows n 1 = [] := by simp [lows, divp, List.range_succ]
    have e2 : highs n 1 = [] := by unfold highs; rw [e1]; rfl
    refine ⟨1, rfl, by omega, by omega, ?_, ?_, ?_, Below.refl _ _, ?_⟩
    · show World.ownsRow _ _ _ _ _ _ _; rw [e1]; exact World.ownsRow_nil _ _ _ _
    · show World.ownsRow _ _ _ _ _ _ _; rw [e2]; exact World.ownsRow_nil _ _ _ _
    · intro g hg; cases hg
    · intro e he
      obtain rfl : e = 0 := by omega
      omega
  case round =>
    obtain ⟨d, rfl, hd, hd2, hl, hh, hap, hbel, hsq⟩ := hrel
    obtain ⟨p0, p1⟩ := sq_int d 1001 hd2
    have hll := lows_len n d
    have hhl := highs_len n d
    by_cases hle : d * d ≤ n
    · have hle2 : (d : Int) * d ≤ n := ge_sq'' hle
      have hd3 : d ≤ 1000 := by
        rcases Nat.lt_or_ge 1000 d with h | h
        · have := Nat.mul_le_mul (show 1001 ≤ d from h) (show 1001 ≤ d from h); omega
        · exact h
      have hsq2 : Hid (∀ e, e < d + 1 → e * e ≤ n) := by
        intro e he
        by_cases h : e = d
        · subst h; exact hle
        · exact hsq.out e (by omega)
      by_cases hdv : d ∣ n
      · have ht := dvd_beq n d hdv
        have hp : divp n d = true := by unfold divp; exact decide_eq_true ⟨hd, hdv⟩
        have HL := Lib.hid (lows_succ n d hp)
        by_cases hlt : d * d < n
        · have hlt2 : (d : Int) * d < n := lt_sq'' hlt
          have HH := Lib.hid (highs_succ n d hp hlt)
          have q0 : 0 ≤ (n : Int) / (d : Int) := Int.ediv_nonneg (by omega) (by omega)
          have q1 : (n : Int) / (d : Int) ≤ n := Int.ediv_le_self _ (by omega)
          clear hdv hp hlt hle
          go_wp2_with (first
            | (at_builtin; refine app_one2 rfl (.tmp 17) (.tmp 19) 32 rfl w.heap.size 3 _ 1 8 Try.underlying32 intInfo u3 (lows n d).length (natInts (lows n d)) rfl hl.out [.int .i64 d] rfl rfl (by intro u hu; simp at hu; subst hu; rfl) (by unfold maxLen; omega) (by omega) hbel.out.size ?_; intro v1 w1 hl1 hg1 hb1 hk1; have hh1 := Lib.hid (kept_apart hh.out hg1 hap.out); have hl1' := Lib.hid hl1; have hg1' := Lib.hid hg1; have hk1' := Lib.hid hk1; have hb1' := Lib.hid (hbel.out.trans hb1); have hb1s := Lib.hid hb1; clear hl1 hg1 hk1 hb1)
            | (at_builtin; go_must (refine app_one2 rfl (.tmp 26) (.tmp 30) 32 rfl w.heap.size 3 _ 1 8 Try.underlying32 intInfo u4 (highs n d).length (natInts (highs n d)) (by rfl) hh1.out [.int .i64 ((n : Int) / (d : Int))] (by rfl) (by rfl) (by intro u hu; simp at hu; subst hu; rfl) (by unfold maxLen; omega) (by omega) hb1'.out.size ?_); intro v2 w2 hh2 hg2 hb2 hk2))
          have hq : [Value.int .i64 ((n : Int) / (d : Int))] = natInts [n / d] := by simp [natInts]
          have hap1 : Apart v1 u4 := hap.out.grow hk1'.out (fun g hg => by have := (hh.out.lt g hg).2; omega)
          have hl2 : w2.ownsRow w.heap.size 3 1 v1 ((lows n d).length + 1) (natInts (lows n d) ++ [Value.int .i64 d]) := kept_apart hl1'.out hg2 hap1.symm
          have hap2 : Apart v1 v2 := (hap1.symm.grow hk2 (fun g hg => by have := (hl1'.out.lt g hg).2; omega)).symm
          rw [hq] at hh2
          go_roundw
          case rel =>
            refine ⟨d + 1, by go_num, by omega, by omega, ?_, ?_, hap2, hb1'.out.trans hb2, hsq2⟩
            · show World.ownsRow _ _ _ _ _ _ _
              rw [HL.out, natInts_append, List.length_append]; exact hl2
            · show World.ownsRow _ _ _ _ _ _ _
              rw [HH.out, natInts_append, List.length_append]; exact hh2
          case measure => simp [intOf]; omega
        · have hlt2 : ¬ (d : Int) * d < n := by
            intro h5
            have h6 : ((d * d : Nat) : Int) = (d : Int) * d := by push_cast; rfl
            omega
          have HH := Lib.hid (highs_same n d hp hlt)
          clear hdv hp hlt hle
          go_wp2_with (at_builtin; refine app_one2 rfl (.tmp 17) (.tmp 19) 32 rfl w.heap.size 3 _ 1 8 Try.underlying32 intInfo u3 (lows n d).length (natInts (lows n d)) rfl hl.out [.int .i64 d] rfl rfl (by intro u hu; simp at hu; subst hu; rfl) (by unfold maxLen; omega) (by omega) hbel.out.size ?_; intro v1 w1 hl1 hg1 hb1 hk1; have hh1 := Lib.hid (kept_apart hh.out hg1 hap.out); have hl1' := Lib.hid hl1; have hk1' := Lib.hid hk1; have hb1' := Lib.hid (hbel.out.trans hb1); clear hl1 hg1 hk1 hb1)
          have hap1 : Apart v1 u4 := hap.out.grow hk1'.out (fun g hg => by have := (hh.out.lt g hg).2; omega)
          go_roundw
          case rel =>
            refine ⟨d + 1, by go_num, by omega, by omega, ?_, ?_, hap1, hb1'.out, hsq2⟩
            · show World.ownsRow _ _ _ _ _ _ _
              rw [HL.out, natInts_append, List.length_append]; exact hl1'.out
            · show World.ownsRow _ _ _ _ _ _ _
              rw [HH.out]; exact hh1.out
          case measure => simp [intOf]; omega
      · have ht := ndvd_beq n d hdv
        have hp : divp n d = false := by unfold divp; exact decide_eq_false (fun h => hdv h.2)
        have HL := Lib.hid (lows_skip n d hp)
        have HH := Lib.hid (highs_skip n d hp)
        clear hdv hp hle
        go_wp2_with fail
        go_roundw
        case rel =>
          refine ⟨d + 1, by go_num, by omega, by omega, ?_, ?_, hap, hbel, hsq2⟩
          · show World.ownsRow _ _ _ _ _ _ _
            rw [HL.out]; exact hl.out
          · show World.ownsRow _ _ _ _ _ _ _
            rw [HH.out]; exact hh.out
        case measure => simp [intOf]; omega
    · have hle2 : ¬ (d : Int) * d ≤ n := by
        intro h5
        have h6 : ((d * d : Nat) : Int) = (d : Int) * d := by push_cast; rfl
        omega
      have HE := Lib.hid (divs_eq h1 hsq.out (by omega : n < d * d))
      clear hle
      have hone : ∀ l : List Nat, ∀ u ∈ natInts l, u.oneCell' = true := by
        intro l u hu
        simp only [natInts, List.mem_map] at hu
        obtain ⟨_, _, rfl⟩ := hu
        rfl
      have HONE := Lib.hid hone
      clear hone
      rcases hh.out.2 with ⟨rfl, hnil⟩ | ⟨g, cap, cur, rfl, hrest⟩
      · have hz : Hid (divs n = lows n d ∧ (lows n d).length + 0 ≤ 1001) := by
          have h2 : highs n d = [] := by simpa [natInts] using hnil
          have h3 := HE.out
          rw [h2] at h3
          exact ⟨by rw [← h3]; simp, by omega⟩
        clear hnil
        go_wp2_with (first | (go_at_call 79; refine (reverse_nil _).mono ?_; rintro e w' ⟨rfl, rfl⟩) | (at_builtin; refine app_all rfl (.tmp 34) (.tmp 35) 32 rfl w.heap.size 3 _ 1 8 Try.underlying32 intInfo u3 (lows n d).length (natInts (lows n d)) rfl hl.out none 0 0 [] rfl (fun _ => ⟨rfl, rfl⟩) rfl (Reads.nil _ _) (by intro u hu; simp at hu) (by unfold maxLen; omega) (by omega) hbel.out.size ?_; intro v3 w3 hl3 hg3 hb3))
        have hfin : Hid (w3.ownsRow w.heap.size 3 1 v3 (divs n).length (natInts (divs n)) ∧ Below w.heap.size w w3) := ⟨by rw [hz.out.1]; simpa using hl3, hbel.out.trans hb3⟩
        go_ret
        exact ⟨v3, rfl, hfin.out⟩
      · have hzs : natInts (highs n d) = ((highs n d).map fun (x : Nat) => (x : Int)).map (Value.int .i64) := by simp [natInts, List.map_map, Function.comp_def]
        have hrow := hh.out
        rw [hzs] at hrow
        obtain ⟨zs, hz⟩ : ∃ zs : List Int, (highs n d).map (fun (x : Nat) => (x : Int)) = zs := ⟨_, rfl⟩
        rw [hz] at hrow
        have hzl : (highs n d).length = zs.length := by rw [← hz]; simp
        rw [hzl] at hrow hh
        have hzl2 : zs.length ≤ 1001 := by omega
        have HZ := Lib.hid hz
        have HZL := Lib.hid hzl
        have HROW := Lib.hid hrow
        clear hrest hz hzl hrow hzs
        go_wp2_with fail
        rw [HZL.out]
        refine (reverse_int w.heap.size 3 g cap zs wr (by omega) HROW.out).mono ?_
        rintro e w2 ⟨rfl, hrev, hg2⟩
        have hl2 := Lib.hid (hl.out.kept hg2 (by
          right; intro hx
          exact hap.out g hx rfl))
        have hb2 := Lib.hid (hbel.out.trans ((Below.refl w.heap.size wr).grown hg2 hbel.out.size (fun k hk => by cases hk; exact (HROW.out.lt g rfl).1)))
        have hRR : Hid (Reads w2 (some ⟨g, 0, none⟩) (zs.reverse.map (Value.int .i64))) := by
          obtain ⟨ao, cp, hv, hR, _, _⟩ := own_reads hrev
          cases hv; exact hR
        have hlen : Hid ((zs.reverse.map (Value.int .i64)).length = zs.length * 1) := by show _ = _; simp
        clear hrev hg2
        go_wp2_with (at_builtin; refine app_all rfl (.tmp 34) (.tmp 35) 32 rfl w.heap.size 3 _ 1 8 Try.underlying32 intInfo u3 (lows n d).length (natInts (lows n d)) (by rfl) hl2.out (some ⟨g, 0, none⟩) zs.length cap (zs.reverse.map (Value.int .i64)) (by rfl) (fun h => by cases h) hlen.out hRR.out (ints_one _ _) (by unfold maxLen; omega) (by omega) hb2.out.size ?_; intro v3 w3 hl3 hg3 hb3)
        have hfin : Hid (w3.ownsRow w.heap.size 3 1 v3 (divs n).length (natInts (divs n)) ∧ Below w.heap.size w w3) := by
          refine ⟨?_, hb2.out.trans hb3⟩
          have e : natInts (lows n d) ++ zs.reverse.map (Value.int .i64) = natInts (divs n) := by
            rw [← HE.out, natInts_append]
            congr 1
            rw [← HZ.out]
            simp [natInts, List.map_map, Function.comp_def]
          have e2 : (lows n d).length + zs.length = (divs n).length := by rw [← HE.out, ← HZL.out]; simp
          rw [e, e2] at hl3
          exact hl3
        go_ret
        exact ⟨v3, rfl, hfin.out⟩
end Go.Proofs.Ytmeffbooabionaa
