/- Contract of chinese.Join. -/
import Derived.Test.YtkincmkmkfiglaaRows
import Derived.Test.YtkincmkmkfiglaaChinese2
import Derived.Test.YtkincmkmkfiglaaEuclid
namespace Go.Proofs.Ytkincmkmkfiglaa
open Go.RowKit

theorem quiet_at0 {P : Program} {f : FuncId} {args : Array Value} {w : World} {n : Nat} {v : Value}
    (h : ∀ W, Calls P f args W fun e w' => e = .returned v ∧ ∃ m, w' = W.drewN m) :
    Calls P f args (w.drewN n) fun e w'' => e = .returned v ∧ ∃ m, w'' = w.drewN m :=
  (h (w.drewN n)).mono fun e w' hh => by
    obtain ⟨h1, m, rfl⟩ := hh
    exact ⟨h1, n + m, World.drewN_drewN _ _ _⟩
def natP (zs : List (Int × Int)) : List (Nat × Nat) := zs.map fun z => (z.1.toNat, z.2.toNat)
theorem natP_len (zs : List (Int × Int)) : (natP zs).length = zs.length := by simp [natP]
theorem natP_get {zs : List (Int × Int)} {k : Nat} {z : Int × Int} (h : zs[k]? = some z) (hb : rBad z = false) :
    ∃ R M : Nat, z = ((R : Int), (M : Int)) ∧ 1 ≤ M ∧ M ≤ 1000 ∧ R < M ∧ (natP zs)[k]? = some (R, M) := by
  obtain ⟨r, m⟩ := z
  unfold rBad at hb
  simp only [decide_eq_false_iff_not] at hb
  refine ⟨r.toNat, m.toNat, ?_, by omega, by omega, by omega, ?_⟩
  · rw [Int.toNat_of_nonneg (by omega), Int.toNat_of_nonneg (by omega)]
  · unfold natP; rw [List.getElem?_map, h]; rfl
theorem chin_ok {zs : List (Int × Int)} (h : chinE zs = 0) : zs.length ≤ 6 ∧ ∀ z ∈ zs, rBad z = false := by
  unfold chinE at h
  split at h
  · cases h
  · split at h
    · cases h
    · rename_i h1 h2
      refine ⟨by omega, fun z hz => ?_⟩
      simp only [Bool.not_eq_true, List.any_eq_false] at h2
      simpa using h2 z hz
/-- Two of the congruences are at odds. -/
def AnyOdds (ps : List (Nat × Nat)) : Prop := ∃ (i j : Nat) (a b : Nat × Nat), j < i ∧ ps[i]? = some a ∧ ps[j]? = some b ∧ odds a b
theorem Sys.not_odds {ps : List (Nat × Nat)} {n m : Nat} (h : Sys ps n m) (ho : AnyOdds ps) : False := by
  obtain ⟨i, j, a, b, _, ha, hb, hab⟩ := ho
  exact hab (h.agree (List.mem_of_getElem? ha) (List.mem_of_getElem? hb))
theorem step_none {ps : List (Nat × Nat)} {k n m R M : Nat} (h : Sys (ps.take k) n m) (hk : ps[k]? = some (R, M)) (hM : 1 ≤ M) (hR : R < M) (hno : ∀ j, j < M / Nat.gcd m M → (n + j * m) % M ≠ R) : AnyOdds ps := by
  have h1 : ¬ (Nat.gcd m M : Int) ∣ (R : Int) - n := by
    intro hd
    obtain ⟨j, hj, he⟩ := crt_step hM hR hd
    exact hno j hj he
  have h2 : ∃ a, a ∈ ps.take k ∧ ¬ (Nat.gcd a.2 M : Int) ∣ (R : Int) - a.1 := by
    refine Classical.byContradiction fun hc => h1 (crt_gcd h fun a ha => ?_)
    exact Classical.byContradiction fun hn => hc ⟨a, ha, hn⟩
  obtain ⟨a, ha, hn⟩ := h2
  obtain ⟨j, hj, he⟩ := List.mem_iff_getElem.1 ha
  have hjk : j < k := by rw [List.length_take] at hj; omega
  refine ⟨k, j, (R, M), a, hjk, hk, ?_, ?_⟩
  · rw [← List.getElem?_take_of_lt hjk, List.getElem?_eq_getElem hj, he]
  · unfold odds
    rw [Nat.gcd_comm]
    exact hn
theorem gI_mod (m M : Nat) : gI ((m : Int) % (M : Int)) (M : Int) = ((Nat.gcd m M : Nat) : Int) := by
  have e : ((m : Int) % (M : Int)) = ((m % M : Nat) : Int) := by push_cast; rfl
  rw [e]
  unfold gI
  rw [Int.gcd_natCast_natCast, ← Nat.gcd_rec, Nat.gcd_comm]
def JoinPost (zs : List (Int × Int)) (w : World) (e : Ending) (w' : World) : Prop :=
  Below w.heap.size w w' ∧ ((∃ n m : Nat, Sys (natP zs) n m ∧ m ≤ 1000000000000000000 ∧ e = .returned (.tuple #[.int .i64 n, .int .i64 m, .int .i64 0])) ∨ (AnyOdds (natP zs) ∧ e = .returned (.tuple #[.int .i64 0, .int .i64 0, .int .i64 4])))
set_option maxRecDepth 100000 in
set_option maxHeartbeats 4000000 in
theorem chinese_Join (zs : List (Int × Int)) (ao : Option Addr) (cap : Nat) (w : World) (hz : chinE zs = 0) (hR : Hid (Reads w ao (pairR zs))) :
    Calls Try.prog 25 #[.slice ao zs.length cap] w (JoinPost zs w) := by
  obtain ⟨h6, hall⟩ := chin_ok hz
  have hc := chinese_Check zs ao cap w (by omega) hR
  rw [hz] at hc
  have HC := Lib.hid hc
  have HALL := Lib.hid hall
  obtain ⟨ps, hps⟩ : ∃ ps, natP zs = ps := ⟨_, rfl⟩
  have HPS := Lib.hid hps
  obtain ⟨len, hlen⟩ : ∃ n, zs.length = n := ⟨_, rfl⟩
  rw [hlen] at h6 HC ⊢
  have HL := Lib.hid hlen
  clear hlen hc hz hall hps
  go_enter Try.func25, Try.ntmps25
  go_wp2_with fail
  refine HC.out.mono ?_
  rintro e w0 ⟨rfl, hb0⟩
  have HB0 := Lib.hid hb0
  clear hb0 HC
  go_wp2_with fail
  go_loopw [6, 7, 20] (fun vn vm vi wr => ∃ k n m : Nat, vi = .int .i64 k ∧ k ≤ len ∧ vn = .int .i64 n ∧ vm = .int .i64 m ∧ n < m ∧ Hid (Sys (ps.take k) n m) ∧ Hid (m ≤ 1000 ^ k) ∧ Hid (Below w.heap.size w wr)) (fun _ _ vi _ => len - (intOf vi).toNat)
  case atStart => exact ⟨0, 0, 1, rfl, by omega, rfl, rfl, by omega, Lib.hid Sys.start, Lib.hid (Nat.le_refl _), HB0⟩
  case round =>
    obtain ⟨k, n, m, rfl, hk, rfl, rfl, hnm, hsys, hmb, hb⟩ := hrel
    by_cases hkl : k < len
    · obtain ⟨z, hz⟩ : ∃ z, zs[k]? = some z := ⟨zs[k]'(by rw [HL.out]; exact hkl), List.getElem?_eq_getElem _⟩
      obtain ⟨b, o, rfl, c1, c2⟩ := pair_cell (hR.out.below hb.out) hz
      obtain ⟨R, M, rfl, hM1, hM2, hRM, hpk⟩ := natP_get hz (HALL.out z (List.mem_of_getElem? hz))
      rw [HPS.out] at hpk
      have HPK := Lib.hid hpk
      dsimp only at c1 c2
      have hm15 : m ≤ 1000000000000000 := Nat.le_trans hmb.out (Nat.le_trans (Nat.pow_le_pow_right (by omega) (show k ≤ 5 by omega)) (by decide))
      obtain ⟨g, hg⟩ : ∃ g, Nat.gcd m M = g := ⟨_, rfl⟩
      have hg0 : 1 ≤ g := by rw [← hg]; exact Nat.gcd_pos_of_pos_right _ (by omega)
      have hgM : g ≤ M := by rw [← hg]; exact Nat.gcd_le_right _ (by omega)
      have HG := Lib.hid hg
      have hGc := fun W => euclid_Gcd ((m : Int) % (M : Int)) (M : Int) W (by have := Int.emod_nonneg (m : Int) (b := (M : Int)) (by omega); omega) (by have := Int.emod_lt_of_pos (m : Int) (b := (M : Int)) (by omega); omega) (by omega) (by omega)
      rw [gI_mod, hg] at hGc
      obtain ⟨r0, hr0⟩ : ∃ r0, m % M = r0 := ⟨_, rfl⟩
      have hr0M : r0 < M := by rw [← hr0]; exact Nat.mod_lt _ (by omega)
      have er0 : (m : Int) % (M : Int) = (r0 : Int) := by rw [← hr0]; push_cast; rfl
      rw [er0] at hGc
      have HGC := Lib.hid hGc
      obtain ⟨q, hq⟩ : ∃ q, M / g = q := ⟨_, rfl⟩
      have hqM : q ≤ 1000 := by rw [← hq]; exact Nat.le_trans (Nat.div_le_self _ _) hM2
      have eq1 : (M : Int) / (g : Int) = (q : Int) := by rw [← hq]; push_cast; rfl
      have HQ := Lib.hid hq
      have hg0I : ¬ ((g : Int) = 0) := by omega
      have hM0I : ¬ ((M : Int) = 0) := by omega
      have wM : IntKind.i64.wrap (r0 : Int) = (r0 : Int) := IntWalk.i64_in _ (by omega)
      have hM0N : ¬ (M = 0) := by omega
      have wq : IntKind.i64.wrap (q : Int) = (q : Int) := IntWalk.i64_in _ (by omega)
      have etm : Int.tmod (m : Int) (M : Int) = (r0 : Int) := by rw [Int.tmod_eq_emod_of_nonneg (by omega), er0]
      have cb1 : (wr.alloc (.cells #[.int .i64 R, .int .i64 M] 53)).cell? ⟨wr.heap.size, 0, none⟩ = some (.int .i64 R) := by simp [World.cell?_alloc_new]
      have cb2 : (wr.alloc (.cells #[.int .i64 R, .int .i64 M] 53)).cell? ⟨wr.heap.size, 1, none⟩ = some (.int .i64 M) := by simp [World.cell?_alloc_new]
      clear hz hpk hg hq hGc
      go_wp2_with fail
      go_quiet ((go_at_call 34; (first | exact quiet_at0 (fun W => HGC.out W) | exact quiet_at (fun W => HGC.out W))))
      go_wp2_with fail
      go_loopw [12] (fun vj wx => ∃ j : Nat, vj = .int .i64 j ∧ j ≤ q ∧ Hid (∀ i, i < j → (n + i * m) % M ≠ R) ∧ ∃ q2, wx = (wr.alloc (.cells #[.int .i64 R, .int .i64 M] 53)).drewN q2) (fun vj _ => q - (intOf vj).toNat)
      case atStart => exact ⟨0, rfl, by omega, Lib.hid (by intro i hi; omega), _, rfl⟩
      case round =>
        obtain ⟨j, rfl, hj, hno, q2, rfl⟩ := hrel
        by_cases hjq : j < q
        · have dj : decide ((j : Int) < q) = true := by simp; omega
          have djb : ((j : Int) == q) = false := by simp; omega
          have hjm : (j : Int) * m ≤ 1000000000000000000 := by
            have h1 : j * m ≤ 1000 * 1000000000000000 := Nat.mul_le_mul (by omega) hm15
            have h2 : ((j * m : Nat) : Int) = (j : Int) * m := by push_cast; rfl
            omega
          have hjm0 : 0 ≤ (j : Int) * m := Int.mul_nonneg (by omega) (by omega)
          have w1 : IntKind.i64.wrap ((j : Int) * m) = (j : Int) * m := IntWalk.i64_in _ (by omega)
          have w2 : IntKind.i64.wrap ((n : Int) + (j : Int) * m) = (n : Int) + (j : Int) * m := IntWalk.i64_in _ (by omega)
          obtain ⟨s, hs⟩ : ∃ s, (n + j * m) % M = s := ⟨_, rfl⟩
          have hsM : s < M := by rw [← hs]; exact Nat.mod_lt _ (by omega)
          have es : ((n : Int) + (j : Int) * m) % (M : Int) = (s : Int) := by rw [← hs]; push_cast; rfl
          have et : Int.tmod ((n : Int) + (j : Int) * m) (M : Int) = (s : Int) := by rw [Int.tmod_eq_emod_of_nonneg (by omega), es]
          have ws : IntKind.i64.wrap (s : Int) = (s : Int) := IntWalk.i64_in _ (by omega)
          have HS := Lib.hid hs
          by_cases hsR : s = R
          · have ds : ((s : Int) != (R : Int)) = false := by simp; omega
            have hnew : Hid (Sys (ps.take (k + 1)) (n + j * m) (m * q)) := by
              have h1 := Sys.step (k := j) (R := R) hsys.out (by rw [HG.out, HQ.out]; exact hjq) (HS.out.trans hsR)
              rw [HG.out, HQ.out] at h1
              show Sys _ _ _
              rw [List.take_add_one, HPK.out]
              exact h1
            have hmq : (m : Int) * q ≤ 1000000000000000000 := by
              have h1 : m * q ≤ 1000000000000000 * 1000 := Nat.mul_le_mul hm15 hqM
              have h2 : ((m * q : Nat) : Int) = (m : Int) * q := by push_cast; rfl
              omega
            have hmq0 : 0 ≤ (m : Int) * q := Int.mul_nonneg (by omega) (by omega)
            have w3 : IntKind.i64.wrap ((m : Int) * q) = (m : Int) * q := IntWalk.i64_in _ (by omega)
            have hmb2 : Hid (m * q ≤ 1000 ^ (k + 1)) := by
              show _ ≤ _
              rw [Nat.pow_succ]
              exact Nat.mul_le_mul hmb.out hqM
            have hlt : Hid (n + j * m < m * q) := hnew.out.lt
            have HB := Lib.hid (hb.out.alloc hb.out.size (.cells #[.int .i64 R, .int .i64 M] 53))
            clear hsR hs es hjm hmq
            go_wp2_with fail
            go_quiet (fail)
            go_wp2_with fail
            go_quiet (fail)
            go_wp2_with fail
            go_roundw
            case rel => exact ⟨k + 1, n + j * m, m * q, by go_num, by omega, by push_cast; rfl, by push_cast; rfl, hlt.out, hnew, hmb2, Lib.hid (by repeat (first | exact HB.out | apply below_drewN))⟩
            case measure => simp [intOf]; omega
          · have ds : ((s : Int) != (R : Int)) = true := by simp; omega
            have hno2 : Hid (∀ i, i < j + 1 → (n + i * m) % M ≠ R) := by
              intro i hi
              rcases Nat.lt_or_ge i j with h | h
              · exact hno.out i h
              · obtain rfl : i = j := by omega
                rw [HS.out]; exact hsR
            clear hsR hs es hjm
            go_wp2_with fail
            go_quiet (fail)
            go_wp2_with fail
            go_roundw
            case rel => exact ⟨j + 1, by go_num, by omega, hno2, _, rfl⟩
            case measure => simp [intOf]; omega
        · have hjq2 : j = q := by omega
          subst hjq2
          have dj : decide ((j : Int) < j) = false := by simp
          have djb : ((j : Int) == j) = true := by simp
          have hodd : Hid (AnyOdds (natP zs)) := by
            show AnyOdds _
            rw [HPS.out]
            exact step_none hsys.out HPK.out hM1 hRM (by rw [HG.out, HQ.out]; exact hno.out)
          have HB := Lib.hid (hb.out.alloc hb.out.size (.cells #[.int .i64 R, .int .i64 M] 53))
          go_wp2_with fail
          go_quiet (fail)
          go_wp2_with fail
          go_ret3
          exact ⟨by repeat (first | exact HB.out | apply below_drewN), .inr ⟨hodd.out, rfl⟩⟩
    · have hk2 : k = ps.length := by rw [← HPS.out, natP_len, HL.out]; omega
      have hfin : Hid (Sys (natP zs) n m) := by
        have := hsys.out
        rw [hk2, List.take_length] at this
        show Sys _ _ _
        rw [HPS.out]; exact this
      have hm18 : Hid (m ≤ 1000000000000000000) := Nat.le_trans hmb.out (Nat.le_trans (Nat.pow_le_pow_right (by omega) (show k ≤ 6 by omega)) (by decide))
      clear hk2
      go_wp2_with fail
      go_ret3
      exact ⟨hb.out, .inl ⟨n, m, hfin.out, hm18.out, rfl⟩⟩
end Go.Proofs.Ytkincmkmkfiglaa
