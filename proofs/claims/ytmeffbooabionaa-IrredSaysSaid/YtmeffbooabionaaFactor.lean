/- prime.Factor: the prime factors of a number, as a new list of powers. -/
import Derived.Test.YtmeffbooabionaaRows
import Derived.Test.YtmeffbooabionaaBase
import Derived.Test.YtmeffbooabionaaMem
import Derived.Test.YtmeffbooabionaaPrime
import Derived.Test.YtmeffbooabionaaIrM23
set_option linter.unusedVariables false
set_option linter.unusedSimpArgs false
namespace Go.Proofs.Ytmeffbooabionaa
open Go.RowKit

/-- The cells of a list of powers. -/
def powCells (l : List (Nat × Nat)) : List Value := l.flatMap fun a => [.int .i64 a.1, .int .i64 a.2]
theorem powCells_append (l m : List (Nat × Nat)) : powCells (l ++ m) = powCells l ++ powCells m := by simp [powCells]
theorem powInfo0 : (Try.prog.info? 83).map (fun i => (i.zero, i.size, i.bytes)) = some (some (.agg #[.int .i64 0, .int .i64 0]), 2, 16) := by kernel_rfl
theorem powInfo : ElemRow Try.prog 83 (.agg #[.int .i64 0, .int .i64 0]) 2 16 := elemRow_of powInfo0 rfl (by omega)

theorem lt_sq' {n d : Nat} (h : n < d * d) : (n : Int) < (d : Int) * d := by
  have h2 : ((d * d : Nat) : Int) = (d : Int) * d := by push_cast; rfl
  omega
theorem ge_sq' {n d : Nat} (h : d * d ≤ n) : (d : Int) * d ≤ (n : Int) := by
  have h2 : ((d * d : Nat) : Int) = (d : Int) * d := by push_cast; rfl
  omega

def FactorPost (n : Nat) (w : World) (e : Ending) (w' : World) : Prop :=
  ∃ l v, Factors n l ∧ l.length ≤ 1000000 ∧ e = .returned (.tuple #[v, .int .i64 0]) ∧ w'.ownsRow w.heap.size 83 2 v l.length (powCells l) ∧ Below w.heap.size w w'

set_option maxRecDepth 100000 in
set_option maxHeartbeats 1000000 in
theorem prime_Factor (n : Nat) (w : World) (h1 : 1 ≤ n) (hn : n ≤ 1000000) :
    Calls Try.prog 72 #[.int .i64 n] w (FactorPost n w) := by
  have d1 : decide ((1000000 : Int) < n) = false := by simp; omega
  go_enter Try.func72, Try.ntmps72
  go_wp2_with fail
  go_loopw [0, 4, 5] (fun vm vo vd wr => ∃ (m d : Nat) (l : List (Nat × Nat)), vm = .int .i64 m ∧ vd = .int .i64 d ∧ Hid (Fac n m d l) ∧ 1 ≤ m ∧ m ≤ 1000000 ∧ 2 ≤ d ∧ d ≤ 1000001 ∧ l.length + 2 ≤ d ∧ wr.ownsRow w.heap.size 83 2 vo l.length (powCells l) ∧ Below w.heap.size w wr)
    (fun vm _ vd _ => (intOf vm).toNat + 1 - (intOf vd).toNat)
  case atStart => exact ⟨n, 2, [], rfl, rfl, Fac.start n h1, h1, hn, by omega, by omega, by simp, World.ownsRow_nil _ _ _ _, Below.refl _ _⟩
  case round =>
    obtain ⟨m, d, l, rfl, rfl, hF, hm1, hm2, hd1, hd2, hll, hown, hbel⟩ := hrel
    by_cases hm : m = 1
    · subst hm
      obtain ⟨ao, cp, hv, hR, hnone, hmx⟩ := own_reads hown
      subst hv
      have hlen : l.length ≤ 1000000 := by omega
      go_wp2_with (first | (at_make; refine make_cap rfl _ _ 79 rfl w.heap.size 83 _ 2 16 Try.underlying79 powInfo _ _ _ l.length rfl rfl rfl ?m1 ?m2 ?m3 ?_))
      case m1 => omega
      case m2 => exact hmx
      case m3 => exact hbel.size
      intro w1 hown1 hg1
      have hb1 : Below wr.heap.size wr w1 := below_of_grown hg1 (Nat.le_refl _) (by intro k hk; cases hk)
      have hR1 := Lib.hid (hR.below hb1)
      have hbel1 := hbel.trans (hb1.mono hbel.size)
      have hF1 := hF.out.last
      have one : ∀ u ∈ powCells l, u.oneCell' = true := by
        intro u hu
        simp only [powCells, List.mem_flatMap] at hu
        obtain ⟨a, _, ha⟩ := hu
        simp at ha
        rcases ha with rfl | rfl <;> rfl
      have ONE := Lib.hid one
      have HF1 := Lib.hid hF1
      have HN := Lib.hid hnone
      have hcl : Hid ((powCells l).length = l.length * 2) := hown.1
      clear one hF1 hnone hown hR hg1 hb1
      go_wp2_with (at_builtin; refine app_all rfl (.tmp 42) (.tmp 43) 79 rfl w.heap.size 83 _ 2 16 Try.underlying79 powInfo _ 0 [] rfl hown1 ao l.length cp (powCells l) rfl HN.out hcl.out hR1.out ONE.out ?m4 ?m5 ?m6 ?_)
      case m4 => unfold maxLen; omega
      case m5 => omega
      case m6 => exact hbel1.size
      intro v2 w2 hown2 _ hbel2
      go_wp2_with fail
      go_ret2
      exact ⟨l, v2, HF1.out, hlen, rfl, by simpa using hown2, hbel1.trans hbel2⟩
    · have hm2' : 2 ≤ m := by omega
      obtain ⟨p0, p1⟩ := sq_int d 1000001 hd2
      have hdm := hF.out.nod.ge hm2'
      by_cases hsq : m < d * d
      · have hsq2 : (m : Int) < (d : Int) * d := by have := lt_sq' hsq; omega
        have hF2 := Lib.hid (hF.out.jump hm2' hsq)
        clear hsq
        go_wp2_with fail
        go_loopw [0, 6] (fun vm vk wi => ∃ m2 k : Nat, vm = .int .i64 m2 ∧ vk = .int .i64 k ∧ Hid (m ^ k * m2 = m) ∧ 1 ≤ m2 ∧ k + m2 ≤ m ∧ wi = wr) (fun vm _ _ => (intOf vm).toNat)
        case atStart => exact ⟨m, 0, rfl, rfl, by show _ = _; simp, hm1, by omega, rfl⟩
        case round =>
          obtain ⟨m2, k, rfl, rfl, hk, hm21, hkm, rfl⟩ := hrel
          by_cases hdv : m ∣ m2
          · have ht := dvd_beq m2 m hdv
            have hk2 := Lib.hid (quo_step hk.out hdv)
            have hq1 : 1 ≤ m2 / m := Nat.div_pos (Nat.le_of_dvd (by omega) hdv) (by omega)
            have hq2 : m2 / m < m2 := Nat.div_lt_self (by omega) (by omega)
            clear hdv
            go_wp2_with fail
            go_roundw
            case rel => exact ⟨m2 / m, k + 1, by go_num, by go_num, hk2, hq1, by omega, by trivial⟩
            case measure => simp [intOf]; omega
          · have ht := ndvd_beq m2 m hdv
            have HN := Lib.hid hdv
            clear hdv
            by_cases hk0 : k = 0
            · subst hk0
              have hmm : m2 = m := by have := hk.out; simpa using this
              subst hmm
              have hF3 := Lib.hid (hF2.out.skip HN.out)
              exact absurd (Nat.dvd_refl _) HN.out
            · have hF3 := Lib.hid (hF2.out.take (by omega) (by omega) hk.out HN.out)
              have hkp : 0 < k := by omega
              have hge : m2 = 1 ∨ m + 1 ≤ m2 := by
                by_cases h2 : 2 ≤ m2
                · exact .inr (hF3.out.nod.ge h2)
                · omega
              go_wp2_with (at_builtin; refine app_one rfl (.tmp 34) (.tmp 38) 79 rfl w.heap.size 83 _ 2 16 Try.underlying79 powInfo _ l.length (powCells l) rfl hown [.int .i64 m, .int .i64 k] rfl rfl ?c1 ?c2 ?c3 ?c4 ?_)
              case c1 => intro u hu; simp at hu; rcases hu with rfl | rfl <;> rfl
              case c2 => unfold maxLen; omega
              case c3 => omega
              case c4 => exact hbel.size
              intro v' w1 hown' _ hbel'
              go_wp2_with fail
              go_roundw
              case rel => exact ⟨m2, m + 1, l ++ [(m, k)], rfl, by go_num, hF3, hm21, by omega, by omega, by omega, by simp; omega, by rw [powCells_append, List.length_append]; exact hown', hbel.trans hbel'⟩
              case measure => simp [intOf]; omega
      · have hsq2 : ¬ (m : Int) < (d : Int) * d := by have := ge_sq' (by omega : d * d ≤ m); omega
        have hF2 := hF
        clear hsq
        go_wp2_with fail
        go_loopw [0, 6] (fun vm vk wi => ∃ m2 k : Nat, vm = .int .i64 m2 ∧ vk = .int .i64 k ∧ Hid (d ^ k * m2 = m) ∧ 1 ≤ m2 ∧ k + m2 ≤ m ∧ wi = wr) (fun vm _ _ => (intOf vm).toNat)
        case atStart => exact ⟨m, 0, rfl, rfl, by show _ = _; simp, hm1, by omega, rfl⟩
        case round =>
          obtain ⟨m2, k, rfl, rfl, hk, hm21, hkm, rfl⟩ := hrel
          by_cases hdv : d ∣ m2
          · have ht := dvd_beq m2 d hdv
            have hk2 := Lib.hid (quo_step hk.out hdv)
            have hq1 : 1 ≤ m2 / d := Nat.div_pos (Nat.le_of_dvd (by omega) hdv) (by omega)
            have hq2 : m2 / d < m2 := Nat.div_lt_self (by omega) (by omega)
            clear hdv
            go_wp2_with fail
            go_roundw
            case rel => exact ⟨m2 / d, k + 1, by go_num, by go_num, hk2, hq1, by omega, by trivial⟩
            case measure => simp [intOf]; omega
          · have ht := ndvd_beq m2 d hdv
            have HN := Lib.hid hdv
            clear hdv
            by_cases hk0 : k = 0
            · subst hk0
              have hmm : m2 = m := by have := hk.out; simpa using this
              subst hmm
              have hF3 := Lib.hid (hF2.out.skip HN.out)
              have hge : m2 = 1 ∨ d + 1 ≤ m2 := .inr (hF3.out.nod.ge hm2')
              go_wp2_with fail
              go_roundw
              case rel => exact ⟨m2, d + 1, l, rfl, by go_num, hF3, hm1, hm2, by omega, by omega, by omega, hown, hbel⟩
              case measure => simp [intOf]; omega
            · have hF3 := Lib.hid (hF2.out.take (by omega) (by omega) hk.out HN.out)
              have hkp : 0 < k := by omega
              have hge : m2 = 1 ∨ d + 1 ≤ m2 := by
                by_cases h2 : 2 ≤ m2
                · exact .inr (hF3.out.nod.ge h2)
                · omega
              go_wp2_with (at_builtin; refine app_one rfl (.tmp 34) (.tmp 38) 79 rfl w.heap.size 83 _ 2 16 Try.underlying79 powInfo _ l.length (powCells l) rfl hown [.int .i64 d, .int .i64 k] rfl rfl ?e1 ?e2 ?e3 ?e4 ?_)
              case e1 => intro u hu; simp at hu; rcases hu with rfl | rfl <;> rfl
              case e2 => unfold maxLen; omega
              case e3 => omega
              case e4 => exact hbel.size
              intro v' w1 hown' _ hbel'
              go_wp2_with fail
              go_roundw
              case rel => exact ⟨m2, d + 1, l ++ [(d, k)], rfl, by go_num, hF3, hm21, by omega, by omega, by omega, by simp; omega, by rw [powCells_append, List.length_append]; exact hown', hbel.trans hbel'⟩
              case measure => simp [intOf]; omega

set_option maxHeartbeats 400000 in
theorem prime_Factor_bad (n : Int) (w : World) (hn : n < 1 ∨ 1000000 < n) :
    Calls Try.prog 72 #[.int .i64 n] w fun e w' => e = .returned (.tuple #[.slice none 0 0, .int .i64 1]) ∧ w = w' := by
  by_cases h : n < 1
  · go_enter Try.func72, Try.ntmps72
    go_wp2_with fail
    go_ret2
    exact ⟨rfl, rfl⟩
  · have h1 : decide (1000000 < n) = true := by simp; omega
    go_enter Try.func72, Try.ntmps72
    go_wp2_with fail
    go_ret2
    exact ⟨rfl, rfl⟩
end Go.Proofs.Ytmeffbooabionaa
