/- Contracts of massey.Next and massey.Rule. -/
import Derived.Test.YtonphmkilikapaaRows
import Derived.Test.YtonphmkilikapaaMassey2
import Derived.Deep.OwnRows
import Derived.RegionTactic
import Derived.ChangeAlike
namespace Go.Proofs.Ytonphmkilikapaa
open Go.RowKit
attribute [local go_sem] bits_and_bv bits_xor_bv bv_ne bv_zero

set_option maxRecDepth 20000 in
set_option maxHeartbeats 1000000 in
theorem massey_Next_bad (zs rs : List Int) (ao bo : Option Addr) (cap cap2 : Nat) (w : World) (h1 : IntsIn .u8 w ao zs.length zs) (h2 : IntsIn .u8 w bo rs.length rs) (E : Int)
    (hE : (chkN zs ≠ 0 ∧ E = chkN zs) ∨ (chkN zs = 0 ∧ chkN rs ≠ 0 ∧ E = chkN rs) ∨ (chkN zs = 0 ∧ chkN rs = 0 ∧ zs.length < rs.length ∧ E = 7)) :
    Calls Try.prog 61 #[.slice ao zs.length cap, .slice bo rs.length cap2] w fun e w' => e = .returned (.tuple #[.int .u8 0, .int .i64 E]) ∧ ∃ n, w' = w.drewN n := by
  have H1 := Lib.hid h1
  have H2 : Hid (∀ n, IntsIn .u8 (w.drewN n) bo rs.length rs) := fun n => ⟨h2.1, h2.2.1, h2.2.2.1, h2.2.2.2.drew n⟩
  have hl1 := h1.2.1
  have hl2 := h2.2.1
  obtain ⟨a, ha⟩ : ∃ a, chkN zs = a := ⟨_, rfl⟩
  obtain ⟨b, hb⟩ : ∃ b, chkN rs = b := ⟨_, rfl⟩
  rw [ha, hb] at hE
  have HA := Lib.hid ha
  have HB := Lib.hid hb
  clear ha hb h1 h2
  rcases hE with ⟨hne, rfl⟩ | ⟨h0, hne, rfl⟩ | ⟨h0, h00, hlt, rfl⟩
  · have f1 : (E != 0) = true := by simpa using hne
    clear hne
    go_enter Try.func61, Try.ntmps61
    go_wp2_with (go_at_call 64; refine (massey_Check zs ao cap _ H1.out).mono ?_; rw [HA.out]; rintro e w' ⟨rfl, n, rfl⟩)
    go_ret2
    exact ⟨rfl, _, rfl⟩
  · have f1 : (a != 0) = false := by simp [h0]
    have f2 : (E != 0) = true := by simpa using hne
    clear hne h0
    go_enter Try.func61, Try.ntmps61
    go_wp2_with fail
    refine (massey_Check zs ao cap _ H1.out).mono ?_
    rw [HA.out]
    rintro e w' ⟨rfl, n, rfl⟩
    go_wp2_with (go_at_call 64; refine (massey_Check rs bo cap2 _ (H2.out n)).mono ?_; rw [HB.out]; rintro e w' ⟨rfl, n2, rfl⟩)
    go_ret2
    exact ⟨rfl, _, rfl⟩
  · have f1 : (a != 0) = false := by simp [h0]
    have f2 : (b != 0) = false := by simp [h00]
    have f3 : decide ((zs.length : Int) < rs.length) = true := by simp; omega
    have f4 : decide (zs.length < rs.length) = true := by simp; omega
    clear h0 h00
    go_enter Try.func61, Try.ntmps61
    go_wp2_with fail
    refine (massey_Check zs ao cap _ H1.out).mono ?_
    rw [HA.out]
    rintro e w' ⟨rfl, n, rfl⟩
    go_wp2_with (go_at_call 64; refine (massey_Check rs bo cap2 _ (H2.out n)).mono ?_; rw [HB.out]; rintro e w' ⟨rfl, n2, rfl⟩)
    go_ret2
    exact ⟨rfl, _, rfl⟩
theorem bits_reads' {zs : List Int} {w : World} {ao : Option Addr} (h : IntsIn .u8 w ao zs.length zs) (hc : chkN zs = 0) : zs.length ≤ 60 ∧ Reads w ao (rowF zs.length (bvV (bitsOf zs))) := by
  unfold chkN at hc
  split at hc
  · omega
  · split at hc
    · omega
    · rename_i h1 h2
      have := bits_reads (fun z hz => (u8_wf (h.2.2.1 z hz)).1) (by simpa using h2 : zs.any over1 = false)
      exact ⟨by omega, by rw [← this]; exact h.2.2.2⟩
set_option maxRecDepth 20000 in
set_option maxHeartbeats 1000000 in
theorem massey_Next (zs rs : List Int) (ao bo : Option Addr) (cap cap2 : Nat) (w : World) (h1 : IntsIn .u8 w ao zs.length zs) (h2 : IntsIn .u8 w bo rs.length rs) (hz : chkN zs = 0) (hr : chkN rs = 0) (hlen : rs.length ≤ zs.length) :
    Calls Try.prog 61 #[.slice ao zs.length cap, .slice bo rs.length cap2] w fun e w' => e = .returned (.tuple #[.int .u8 (bv (xs rs.length fun k => bitsOf rs k && bitsOf zs (zs.length - 1 - k))), .int .i64 0]) ∧ ∃ n, w' = w.drewN n := by
  obtain ⟨hn, hs⟩ := bits_reads' h1 hz
  obtain ⟨hm, hc⟩ := bits_reads' h2 hr
  have HS : Hid (∀ n, Hid (Reads (w.drewN n) ao (rowF zs.length (bvV (bitsOf zs))))) := fun n => hs.drew n
  have HC : Hid (∀ n, Hid (Reads (w.drewN n) bo (rowF rs.length (bvV (bitsOf rs))))) := fun n => hc.drew n
  have H1 := Lib.hid h1
  have H2 : Hid (∀ n, IntsIn .u8 (w.drewN n) bo rs.length rs) := fun n => ⟨h2.1, h2.2.1, h2.2.2.1, h2.2.2.2.drew n⟩
  have HZ := Lib.hid hz
  have HR := Lib.hid hr
  have f3 : decide ((zs.length : Int) < rs.length) = false := by simp; omega
  have f4 : decide (zs.length < rs.length) = false := by simp; omega
  clear h1 h2 hz hr hs hc
  go_enter Try.func61, Try.ntmps61
  go_wp2_with fail
  refine (massey_Check zs ao cap _ H1.out).mono ?_
  rw [HZ.out]
  rintro e w' ⟨rfl, n, rfl⟩
  go_wp2_with fail
  refine (massey_Check rs bo cap2 _ (H2.out n)).mono ?_
  rw [HR.out]
  rintro e w' ⟨rfl, n2, rfl⟩
  go_wp2_with (go_at_call 97; refine (massey_next (bitsOf zs) (bitsOf rs) zs.length rs.length ao bo cap cap2 _ hn hlen (HS.out _) (HC.out _)).mono ?_; rintro e w' ⟨rfl, rfl⟩)
  go_ret2
  exact ⟨rfl, _, rfl⟩

theorem own_made (w : World) (base e n : Nat) (z : Value) (hb : base ≤ w.heap.size) (hn : n ≤ 1000000) : Own (w.alloc (.cells (madeCells #[z] n) e)) base e w.heap.size n n (fun _ => z) := by
  have h := own_lit w base e (List.replicate n z) hb (by unfold maxLen; simp; omega)
  have e1 : (List.replicate n z).toArray = madeCells #[z] n := by rw [← toList_madeCells_one]
  rw [e1, List.length_replicate, replicate_rowF] at h
  exact h
theorem Own.alloc {w : World} {base e g n cap : Nat} {f : Nat → Value} (h : Own w base e g n cap f) (o : Obj) : Own (w.alloc o) base e g n cap f := World.ownsRow.alloc h o
/-- A row of bits of which k places from gap on have been turned. -/
def updB (C B : Nat → Bool) (gap k j : Nat) : Bool := (C j).xor (if gap ≤ j ∧ j < gap + k then B (j - gap) else false)
def RulePost (s : Nat → Bool) (N : Nat) (w : World) (e : Ending) (w' : World) : Prop :=
  ∃ (L : Nat) (c : Nat → Bool) (v : Value), L ≤ N ∧ gens s c L N ∧ (∀ n c, n < L → ¬ gens s c n N) ∧ e = .returned (.tuple #[v, .int .i64 0]) ∧ w'.ownsRow w.heap.size 5 1 v L (rowF L (bvV c)) ∧ Below w.heap.size w w'
theorem u8Info0 : (Try.prog.info? 5).map (fun i => (i.zero, i.size, i.bytes)) = some (some (.int .u8 0), 1, 1) := by kernel_rfl
set_option maxRecDepth 100000 in
set_option maxHeartbeats 4000000 in
theorem massey_Rule (zs : List Int) (ao : Option Addr) (cap : Nat) (w : World) (h1 : IntsIn .u8 w ao zs.length zs) (hz : chkN zs = 0) :
    Calls Try.prog 62 #[.slice ao zs.length cap] w (RulePost (bitsOf zs) zs.length w) := by
  obtain ⟨hn, hs⟩ := bits_reads' h1 hz
  have HS := Lib.hid hs
  have H1 := Lib.hid h1
  have HZ := Lib.hid hz
  obtain ⟨s, hse⟩ : ∃ s, bitsOf zs = s := ⟨_, rfl⟩
  obtain ⟨N, hNe⟩ : ∃ N, zs.length = N := ⟨_, rfl⟩
  obtain ⟨M, hMe⟩ : ∃ M, N + 1 = M := ⟨_, rfl⟩
  have hM : (N : Int) + 1 = (M : Int) := by omega
  have hM61 : M ≤ 61 := by omega
  have hM1 : 1 ≤ M := by omega
  have hmk := fun W => run_make_row' (P := Try.prog) 93 5 (.int .u8 0) 1 Try.underlying93 u8Info0 rfl .i64 .i64 M (by omega) (by omega) W
  have HC := Lib.hid (massey_Check zs ao cap w H1.out)
  rw [HZ.out] at HC
  rw [hse, hNe] at HS
  rw [hNe] at HC hn ⊢
  rw [hse]
  have HME := Lib.hid hMe
  clear h1 hz hs hse hNe H1 HZ hMe
  go_enter Try.func62, Try.ntmps62
  go_wp2_with (go_at_call 64; refine (HC.out).mono ?_; rintro e w' ⟨rfl, n1, rfl⟩)
  go_region
  obtain ⟨W, hW⟩ : ∃ W, (((w.drewN (n1 + 1)).alloc (Obj.cells (madeCells #[Value.int IntKind.u8 0] M) 5)).alloc (Obj.cells (madeCells #[Value.int IntKind.u8 0] M) 5)) = W := ⟨_, rfl⟩
  obtain ⟨ga, gb, hga, hgb, hA, hB, hab, hbel⟩ : ∃ ga gb, w.heap.size = ga ∧ w.heap.size + 1 = gb ∧ Own W w.heap.size 5 ga M M (fun _ => .int .u8 0) ∧ Own W w.heap.size 5 gb M M (fun _ => .int .u8 0) ∧ ga ≠ gb ∧ Below w.heap.size w W := by
    refine ⟨_, _, rfl, rfl, ?_, ?_, by omega, ?_⟩
    · rw [← hW]; exact (own_made (w.drewN (n1 + 1)) w.heap.size 5 M _ (Nat.le_refl _) (by omega)).alloc _
    · rw [← hW]; have h9 := own_made ((w.drewN (n1 + 1)).alloc (Obj.cells (madeCells #[Value.int IntKind.u8 0] M) 5)) w.heap.size 5 M (.int .u8 0) (by simp) (by omega); rwa [World.size_alloc] at h9
    · rw [← hW]; exact ((below_dr _ _ _).alloc (Nat.le_refl _) _).alloc (by simp) _
  rw [hW, hgb, hga]
  clear hW hga hgb
  rotate_left
  obtain ⟨W, hW⟩ : ∃ W, (((w.drewN (n1 + 1)).alloc (Obj.cells (madeCells #[Value.int IntKind.u8 0] M) 5)).alloc (Obj.cells (madeCells #[Value.int IntKind.u8 0] M) 5)) = W := ⟨_, rfl⟩
  obtain ⟨ga, gb, hga, hgb, hA, hB, hab, hbel⟩ : ∃ ga gb, w.heap.size + 1 = ga ∧ w.heap.size = gb ∧ Own W w.heap.size 5 ga M M (fun _ => .int .u8 0) ∧ Own W w.heap.size 5 gb M M (fun _ => .int .u8 0) ∧ ga ≠ gb ∧ Below w.heap.size w W := by
    refine ⟨_, _, rfl, rfl, ?_, ?_, by omega, ?_⟩
    · rw [← hW]; have h9 := own_made ((w.drewN (n1 + 1)).alloc (Obj.cells (madeCells #[Value.int IntKind.u8 0] M) 5)) w.heap.size 5 M (.int .u8 0) (by simp) (by omega); rwa [World.size_alloc] at h9
    · rw [← hW]; exact (own_made (w.drewN (n1 + 1)) w.heap.size 5 M _ (Nat.le_refl _) (by omega)).alloc _
    · rw [← hW]; exact ((below_dr _ _ _).alloc (Nat.le_refl _) _).alloc (by simp) _
  rw [hW, hga, hgb]
  clear hW hga hgb
  all_goals
    have c1 := hA.cell (show 0 < M by omega)
    have z1 := hA.frozen 0
    have s1 := hA.store 0 (.int .u8 1)
    have hB1 := hB.kept s1.2 (Ne.symm hab)
    have c2 := hB1.cell (show 0 < M by omega)
    have z2 := hB1.frozen 0
    have s2 := hB1.store 0 (.int .u8 1)
    have hA2 := s1.1.kept s2.2 hab
    have hbel1 := hA.belowStore hbel (Nat.le_refl _) 0 (.int .u8 1)
    have hbel2 := Lib.hid (hB1.belowStore hbel1 (Nat.le_refl _) 0 (.int .u8 1))
    have hC0 : ∀ j, (if j = 0 then Value.int .u8 1 else Value.int .u8 0) = bvV (fun k => decide (k = 0)) j := by
      intro j
      unfold bvV bv
      by_cases h : j = 0
      · simp [h]
      · simp [h]
    have HA := Lib.hid (hA2.congr (f' := bvV (fun k => decide (k = 0))) fun j _ => hC0 j)
    have HB := Lib.hid (s2.1.congr (f' := bvV (fun k => decide (k = 0))) fun j _ => hC0 j)
    have HAB := Lib.hid hab
    clear s1 hB1 s2 hA2 hbel1 hC0 hA hB hbel hab
    clear hmk
    go_wp2_with fail
    go_loopw [6, 7, 8, 33] (fun vb vL vg vi wr => ∃ (i L gap g2 cap2 : Nat) (C B : Nat → Bool), vi = .int .i64 i ∧ i ≤ N ∧ vL = .int .i64 L ∧ vg = .int .i64 gap ∧ vb = .slice (some ⟨g2, 0, none⟩) M cap2 ∧ L ≤ i ∧ gap ≤ i + 1 ∧ Hid (BM s i L gap C B) ∧ Hid (Own wr w.heap.size 5 ga M M (bvV C)) ∧ Hid (Own wr w.heap.size 5 g2 M cap2 (bvV B)) ∧ Hid (ga ≠ g2) ∧ Hid (Below w.heap.size w wr)) (fun _ _ _ vi _ => N - (intOf vi).toNat)
    case atStart => exact ⟨0, 0, 1, gb, M, _, _, rfl, by omega, rfl, rfl, rfl, by omega, by omega, BM.start s _ (by simp) (by intro k hk; simp; omega), HA, HB, HAB, hbel2⟩
    case round =>
      obtain ⟨i, L, gap, g2, cap2, C, B, rfl, hiN, rfl, rfl, rfl, hLi, hgi, hBM, hoA, hoB, hab, hbel⟩ := hrel
      by_cases hi : i < N
      · have hs1 := Lib.hid (HS.out.below hbel.out)
        go_wp2_with fail
        go_loopw [10, 38] (fun vd vk wi => ∃ (k : Nat) (d : Bool), vk = .int .i64 k ∧ k ≤ L + 1 ∧ vd = .int .u8 (bv d) ∧ Hid (d = xs k fun k => C k && s (i - k)) ∧ ∃ q, wi = wr.drewN q) (fun _ vk _ => L + 1 - (intOf vk).toNat)
        case atStart => exact ⟨0, false, rfl, by omega, rfl, rfl, 0, rfl⟩
        case round =>
          obtain ⟨k, d, rfl, hk, rfl, hd, q, rfl⟩ := hrel
          by_cases hkl : k < L + 1
          · have hkM : k < M := by have := HME.out; omega
            have x1 := hoA.out.cell hkM
            obtain ⟨t, ht⟩ : ∃ t, i - k = t := ⟨_, rfl⟩
            have hit : IntKind.i64.wrap ((i : Int) - (k : Int)) = (t : Int) := by rw [show (i : Int) - (k : Int) = (t : Int) by omega]; exact IntWalk.i64_in _ (by omega)
            obtain ⟨b2, o2, rfl, x2⟩ := hs1.out t _ (rowF_get (bvV s) (by omega))
            unfold bvV at x1 x2
            have t0 : (0 : Int) ≤ t := by omega
            have t1 : (t : Int) < N := by omega
            have k0 : (0 : Int) ≤ k := by omega
            have k1 : (k : Int) < M := by omega
            have hnew : Hid (d.xor (C k && s t) = xs (k + 1) fun k => C k && s (i - k)) := by
              show _ = _
              rw [xs, ht, hd.out]
            clear ht
            go_wp2_with fail
            go_quiet (fail)
            go_wp2_with fail
            go_roundw
            case rel => exact ⟨k + 1, _, by go_num, by omega, rfl, hnew, by first | exact dr2 _ _ _ | exact ⟨_, rfl⟩⟩
            case measure => simp [intOf]; omega
          · have hdd : Hid (disc s C L i = d) := by
              have : k = L + 1 := by omega
              show _ = _
              rw [hd.out, this]; rfl
            have hoA2 := Lib.hid (hoA.out.drewN q)
            have hoB2 := Lib.hid (hoB.out.drewN q)
            have hbel2 := Lib.hid (below_drewN hbel.out q)
            obtain ⟨wq, hwq⟩ : ∃ wq, wr.drewN q = wq := ⟨_, rfl⟩
            rw [hwq] at hoA2 hoB2 hbel2 ⊢
            clear hd hwq
            cases d with
            | false =>
              have hB2 := Lib.hid (hBM.out.skip hdd.out)
              have z : (bv false == 0) = true := rfl
              go_wp2_with fail
              go_roundw
              case rel => exact ⟨i + 1, L, gap + 1, g2, cap2, C, B, by go_num, by omega, rfl, by go_num, rfl, by omega, by omega, hB2, hoA2, hoB2, hab, hbel2⟩
              case measure => simp [intOf]; omega
            | true =>
              have z : (bv true == 0) = false := rfl
              go_wp2_with fail
              refine (clone_u8 M (rowF M (bvV C)) (some ⟨ga, 0, none⟩) M wq.heap.size wq (by omega) (rowF_length _ _) (fun h => by cases h) hoA2.out.reads (rowF_one (fun j => rfl)) (Nat.le_refl _)).mono ?_
              rintro e w1 ⟨v3, rfl, hown3, hb3⟩
              obtain ⟨g3, cap3, rfl⟩ := own_form hown3 (by rw [← HME.out, rowF_succ]; simp)
              have hg3 := (hown3.lt g3 rfl).1
              have hne3 : Hid (ga ≠ g3 ∧ g2 ≠ g3) := by
                have a1 := hoA2.out.lt; have a2 := hoB2.out.lt
                exact ⟨by omega, by omega⟩
              have hoC1 : Hid (Own w1 w.heap.size 5 g3 M cap3 (bvV C)) := own_mono hown3 hbel2.out.size
              have hoA1 := Lib.hid (hoA2.out.below hb3)
              have hoB1 := Lib.hid (hoB2.out.below hb3)
              have hbel1 := Lib.hid (hbel2.out.trans (hb3.mono hbel2.out.size))
              have hgN : gap < M := by have := HME.out; omega
              have hg1 : 1 ≤ gap := hBM.out.gap1
              clear hown3 hb3 hg3
              go_wp2_with fail
              go_loopw [13] (fun vk wi => ∃ k : Nat, vk = .int .i64 k ∧ k + gap ≤ M ∧ Hid (Own wi w.heap.size 5 ga M M (bvV (updB C B gap k))) ∧ Hid (Own wi w.heap.size 5 g2 M cap2 (bvV B)) ∧ Hid (Own wi w.heap.size 5 g3 M cap3 (bvV C)) ∧ Hid (Below w.heap.size w wi)) (fun vk _ => M - (intOf vk).toNat)
              case atStart => exact ⟨0, rfl, by omega, hoA1.out.congr fun j _ => by unfold bvV updB; rw [if_neg (by omega), Bool.xor_false], hoB1, hoC1, hbel1⟩
              case round =>
                obtain ⟨k, rfl, hkg, oA, oB, oC, hbi⟩ := hrel
                by_cases hkM : k + gap < M
                · obtain ⟨t, ht⟩ : ∃ t, k + gap = t := ⟨_, rfl⟩
                  have hkt : (k : Int) + (gap : Int) = (t : Int) := by omega
                  have htM : t < M := by omega
                  have x1 := oA.out.cell htM
                  have x2 := oB.out.cell (show k < M by omega)
                  have f1 := oA.out.frozen t
                  have hup : updB C B gap k t = C t := by unfold updB; rw [if_neg (by omega), Bool.xor_false]
                  unfold bvV at x1 x2
                  rw [hup] at x1
                  have st := oA.out.store t (.int .u8 (bv ((C t).xor (B k))))
                  have oA3 := Lib.hid (st.1.congr (f' := bvV (updB C B gap (k + 1))) fun j _ => by
                    unfold bvV updB
                    by_cases hj : j = t
                    · subst hj
                      rw [if_pos rfl, if_pos (by omega), show j - gap = k by omega]
                    · rw [if_neg hj]
                      by_cases h5 : gap ≤ j ∧ j < gap + k
                      · rw [if_pos h5, if_pos (by omega)]
                      · rw [if_neg h5, if_neg (by omega)])
                  have oB3 := Lib.hid (oB.out.kept st.2 (Ne.symm hab.out))
                  have oC3 := Lib.hid (oC.out.kept st.2 (Ne.symm hne3.out.1))
                  have hb3 := Lib.hid (oA.out.belowStore hbi.out (Nat.le_refl _) t (.int .u8 (bv ((C t).xor (B k)))))
                  have t0 : (0 : Int) ≤ t := by omega
                  have t1 : (t : Int) < M := by omega
                  have k0 : (0 : Int) ≤ k := by omega
                  have k1 : (k : Int) < M := by omega
                  have hwt : IntKind.i64.wrap (t : Int) = (t : Int) := IntWalk.i64_in _ (by omega)
                  clear ht st hup
                  go_wp2_with fail
                  go_region
                  go_wp2_with fail
                  go_roundw
                  case rel => exact ⟨k + 1, by go_num, by omega, by exact oA3.out, by exact oB3.out, by exact oC3.out, ⟨hb3.out.os, hb3.out.tape, hb3.out.output, hb3.out.size, hb3.out.block⟩⟩
                  case measure => simp [intOf]; omega
                · have hkM2 : Hid (k + gap = M) := by show _ = _; omega
                  have oA3 := Lib.hid (oA.out.congr (f' := bvV (bmNext C B gap)) fun j hj => by
                    have := hkM2.out
                    unfold bvV updB bmNext
                    by_cases h5 : gap ≤ j
                    · rw [if_pos h5, if_pos (by omega)]
                    · rw [if_neg h5, if_neg (by omega)])
                  have hnk : ¬ ((k : Int) + (gap : Int) < M) := by omega
                  by_cases h2 : i < 2 * L
                  · have hB2 := Lib.hid (hBM.out.keep hdd.out h2)
                    go_wp2_with fail
                    go_roundw
                    case rel => exact ⟨i + 1, L, gap + 1, g2, cap2, _, B, by go_num, by omega, rfl, by go_num, rfl, by omega, by omega, hB2, oA3, oB, hab, hbi⟩
                    case measure => simp [intOf]; omega
                  · have hB2 := Lib.hid (hBM.out.turn hdd.out (by omega))
                    go_wp2_with fail
                    go_roundw
                    case rel => exact ⟨i + 1, i + 1 - L, 1, g3, cap3, _, C, by go_num, by omega, by go_num, rfl, rfl, by omega, by omega, hB2, oA3, oC, hne3.out.1, hbi⟩
                    case measure => simp [intOf]; omega
      · have hiN2 : Hid (i = N) := by show _ = _; omega
        obtain ⟨l1, l2⟩ := hBM.out.last
        rw [hiN2.out] at l1 l2
        have HL1 := Lib.hid l1
        have HL2 := Lib.hid l2
        have hLN : L ≤ N := by omega
        have hLM : (L : Int) + 1 ≤ M := by have := HME.out; omega
        clear l1 l2
        by_cases hM2 : 1 < M
        · have hR1 : Hid (Reads wr (some ⟨ga, 1, none⟩) (rowF L (bvV fun k => C (k + 1)))) := by
            intro j u hu
            have hjL : j < L := by
              have := (List.getElem?_eq_some_iff.1 hu).1
              rwa [rowF_length] at this
            rw [rowF_get _ hjL] at hu
            injection hu with hu
            refine ⟨ga, 1, rfl, ?_⟩
            rw [← hu, show 1 + j = j + 1 by omega]
            exact hoA.out.cell (show j + 1 < M by have := HME.out; omega)
          go_wp2_with fail
          refine (clone_u8 L (rowF L (bvV fun k => C (k + 1))) (some ⟨ga, 1, none⟩) (M - 1) w.heap.size wr (by omega) (rowF_length _ _) (fun h => by cases h) hR1 (rowF_one (fun j => rfl)) hbel.out.size).mono ?_
          rintro e w1 ⟨v3, rfl, hown3, hb3⟩
          have hfin : Hid (RulePost s N w (.returned (.tuple #[v3, .int .i64 0])) w1) := ⟨L, fun k => C (k + 1), v3, hLN, HL1.out, HL2.out, rfl, hown3, hbel.out.trans (Below.mono hb3 (Nat.le_refl _))⟩
          clear hown3 hb3
          go_wp2_with fail
          go_ret2
          exact hfin.out
        · obtain rfl : M = 1 := by omega
          obtain rfl : L = 0 := by omega
          go_wp2_with fail
          refine (clone_u8 0 [] (some ⟨ga, 0, none⟩) 0 w.heap.size wr (by omega) rfl (fun h => by cases h) (Reads.nil _ _) (by intro u hu; simp at hu) hbel.out.size).mono ?_
          rintro e w1 ⟨v3, rfl, hown3, hb3⟩
          have hfin : Hid (RulePost s N w (.returned (.tuple #[v3, .int .i64 0])) w1) := ⟨0, fun k => C (k + 1), v3, hLN, HL1.out, HL2.out, rfl, hown3, hbel.out.trans (Below.mono hb3 (Nat.le_refl _))⟩
          clear hown3 hb3
          go_wp2_with fail
          go_ret2
          exact hfin.out
theorem massey_Rule_bad (zs : List Int) (ao : Option Addr) (cap : Nat) (w : World) (h1 : IntsIn .u8 w ao zs.length zs) (hz : chkN zs ≠ 0) :
    Calls Try.prog 62 #[.slice ao zs.length cap] w fun e w' => e = .returned (.tuple #[.slice none 0 0, .int .i64 (chkN zs)]) ∧ ∃ n, w' = w.drewN n := by
  have H1 := Lib.hid h1
  obtain ⟨a, ha⟩ : ∃ a, chkN zs = a := ⟨_, rfl⟩
  have HC := Lib.hid (massey_Check zs ao cap w h1)
  rw [ha] at HC hz ⊢
  have f1 : (a != 0) = true := by simpa using hz
  clear ha hz h1
  go_enter Try.func62, Try.ntmps62
  go_wp2_with (go_at_call 64; refine (HC.out).mono ?_; rintro e w' ⟨rfl, n1, rfl⟩)
  go_ret2
  exact ⟨rfl, _, rfl⟩
end Go.Proofs.Ytonphmkilikapaa
