/- MasseySays: for arbitrary bit sequences Check and Next answer what the reference answers, and Rule what the document asks. Conditions: none. -/
import Derived.Test.YtonphmkilikapaaRows
import Derived.Test.YtonphmkilikapaaMassey3
import Derived.Test.YtonphmkilikapaaRow2
namespace Go.Proofs.Ytonphmkilikapaa
open Go.RowKit
attribute [local go_sem] bits_and_bv bits_xor_bv bv_ne bv_zero

theorem IntsIn.drew {k : IntKind} {w : World} {ao : Option Addr} {n : Nat} {zs : List Int} (h : IntsIn k w ao n zs) (m : Nat) : IntsIn k (w.drewN m) ao n zs := ⟨h.1, h.2.1, h.2.2.1, h.2.2.2.drew m⟩
theorem IntsIn.below {k : IntKind} {w w' : World} {ao : Option Addr} {n : Nat} {zs : List Int} (h : IntsIn k w ao n zs) (hb : Below w.heap.size w w') : IntsIn k w' ao n zs := ⟨h.1, h.2.1, h.2.2.1, h.2.2.2.below hb⟩
/-- What Next answers where a list is at fault. -/
def nextE (zs rs : List Int) : Int := if chkN zs ≠ 0 then chkN zs else if chkN rs ≠ 0 then chkN rs else 7

set_option maxRecDepth 100000 in
set_option maxHeartbeats 2000000 in
theorem masseySays_bad (zs rs : List Int) (ao bo : Option Addr) (cap cap2 : Nat) (w : World) (h1 : IntsIn .u8 w ao zs.length zs) (h2 : IntsIn .u8 w bo rs.length rs) (hz : chkN zs ≠ 0) :
    Calls Try.prog 13 #[.slice ao zs.length cap, .slice bo rs.length cap2] w fun e w' => e = .returned (.bool true) ∧ Below w.heap.size w w' := by
  have hl1 := h1.2.1
  have hl2 := h2.2.1
  have HN := Lib.hid (massey_Next_bad zs rs ao bo cap cap2 w h1 h2 (chkN zs) (.inl ⟨hz, rfl⟩))
  have HRu := Lib.hid (fun n => massey_Rule_bad zs ao cap (w.drewN n) (h1.drew n) hz)
  have HBE := Lib.hid (fun n => ref_BitsErr zs ao cap (w.drewN n) (h1.drew n))
  have HCh := Lib.hid (fun n => massey_Check zs ao cap (w.drewN n) (h1.drew n))
  obtain ⟨a, ha⟩ : ∃ a, chkN zs = a := ⟨_, rfl⟩
  rw [ha] at HN HRu HBE HCh hz
  have f1 : (a != 0) = true := by simpa using hz
  have f2 : (a != a) = false := by simp
  clear ha hz h1 h2
  go_enter Try.func13, Try.ntmps13
  go_wp2_with (first | (go_at_call 61; refine HN.out.mono ?_; rintro e w' ⟨rfl, n1, rfl⟩) | (go_at_call 62; refine (HRu.out _).mono ?_; rintro e w' ⟨rfl, n2, rfl⟩) | (go_at_call 63; refine (HBE.out _).mono ?_; rintro e w' ⟨rfl, n3, rfl⟩) | (go_at_call 64; refine (HCh.out _).mono ?_; rintro e w' ⟨rfl, n4, rfl⟩))
  go_ret
  exact ⟨by simp, (by repeat (first | exact Below.refl _ _ | apply below_drewN | (refine Below.alloc ?_ (by simp) _)))⟩
def bitsL (L : Nat) (c : Nat → Bool) : List Int := (List.range L).map fun j => bv (c j)
theorem bitsL_len (L : Nat) (c : Nat → Bool) : (bitsL L c).length = L := by simp [bitsL]
theorem bitsL_map (L : Nat) (c : Nat → Bool) : (bitsL L c).map (Value.int .u8) = rowF L (bvV c) := by simp [bitsL, rowF, bvV, List.map_map, Function.comp_def]
theorem bv_wf (b : Bool) : (Lit.int .u8 (bv b)).wf = true := by cases b <;> decide
theorem bitsL_chk (L : Nat) (c : Nat → Bool) (h : L ≤ 60) : chkN (bitsL L c) = 0 := by
  unfold chkN
  rw [bitsL_len, if_neg (by omega), if_neg]
  simp only [bitsL, List.any_map, Bool.not_eq_true, List.any_eq_false]
  intro j _
  simp only [Function.comp]
  unfold over1
  have := bv_bd (c j)
  simp; omega
theorem bitsL_in {w : World} {ao : Option Addr} {L : Nat} {c : Nat → Bool} (hL : L ≤ 60) (h : Reads w ao (rowF L (bvV c))) : IntsIn .u8 w ao (bitsL L c).length (bitsL L c) :=
  ⟨rfl, by rw [bitsL_len]; omega, by
    intro z hz
    simp only [bitsL, List.mem_map] at hz
    obtain ⟨j, _, rfl⟩ := hz
    exact bv_wf _, by rw [bitsL_map]; exact h⟩

/-- What Next answers: a bit or an error, as the lists are. -/
def NextIs (zs rs : List Int) (B E : Int) : Prop :=
  ((chkN rs ≠ 0 ∧ E = chkN rs ∧ B = 0) ∨ (chkN rs = 0 ∧ zs.length < rs.length ∧ E = 7 ∧ B = 0))

set_option maxRecDepth 100000 in
set_option maxHeartbeats 4000000 in
theorem masseySays_half (zs rs : List Int) (ao bo : Option Addr) (cap cap2 : Nat) (w : World) (h1 : IntsIn .u8 w ao zs.length zs) (h2 : IntsIn .u8 w bo rs.length rs) (hz : chkN zs = 0) (hr : chkN rs ≠ 0 ∨ (chkN rs = 0 ∧ zs.length < rs.length)) :
    Calls Try.prog 13 #[.slice ao zs.length cap, .slice bo rs.length cap2] w fun e w' => e = .returned (.bool true) ∧ Below w.heap.size w w' := by
  obtain ⟨E, hE⟩ : ∃ E, (if chkN rs ≠ 0 then chkN rs else 7) = E := ⟨_, rfl⟩
  have hl1 := h1.2.1
  have hl2 := h2.2.1
  have HN := Lib.hid (massey_Next_bad zs rs ao bo cap cap2 w h1 h2 E (by
    rcases hr with hr | ⟨hr, hlt⟩
    · right; left; exact ⟨hz, hr, by rw [← hE, if_pos hr]⟩
    · right; right; exact ⟨hz, hr, hlt, by rw [← hE, if_neg (by simp [hr])]⟩))
  have HRu := Lib.hid (fun n => massey_Rule zs ao cap (w.drewN n) (h1.drew n) hz)
  have HBE := Lib.hid (fun n => ref_BitsErr zs ao cap (w.drewN n) (h1.drew n))
  have HCh := Lib.hid (fun n => massey_Check zs ao cap (w.drewN n) (h1.drew n))
  have H2 := Lib.hid h2
  have H1 := Lib.hid h1
  obtain ⟨hn60, hs⟩ := bits_reads' h1 hz
  have HS := Lib.hid hs
  rw [hz] at HBE HCh
  obtain ⟨q, hq⟩ : ∃ q, chkN rs = q := ⟨_, rfl⟩
  obtain ⟨s, hse⟩ : ∃ s, bitsOf zs = s := ⟨_, rfl⟩
  rw [hse] at HS HRu
  have HQ := Lib.hid hq
  have HZ := Lib.hid hz
  rw [hq] at hE hr
  clear hq hz h1 h2 hs hse
  go_enter Try.func13, Try.ntmps13
  go_wp2_with fail
  refine HN.out.mono ?_
  rintro e w' ⟨rfl, n1, rfl⟩
  go_wp2_with fail
  refine (HRu.out n1).mono ?_
  rintro e w1 ⟨L, c, v, hLN, hg, hmin, rfl, hown, hbel⟩
  obtain ⟨ro, rc, rfl, hRR, hnone, _⟩ := own_reads hown
  have HB1 : Hid (Below w.heap.size w w1) := (below_dr _ _ n1).trans hbel
  have HRR := Lib.hid hRR
  have HG := Lib.hid hg
  have HMIN := Lib.hid hmin
  have H1w := Lib.hid (H1.out.below HB1.out)
  have H2w := Lib.hid (H2.out.below HB1.out)
  have HSw := Lib.hid (HS.out.below HB1.out)
  have hL60 : L ≤ 60 := by omega
  have hRI := Lib.hid (bitsL_in hL60 HRR.out)
  have hRC := Lib.hid (bitsL_chk L c hL60)
  have hRL := Lib.hid (bitsL_len L c)
  have hLL : ((L : Int) != (L : Int)) = false := by simp
  clear hown hbel hRR hnone hg hmin HBE HCh
  go_wp2_with fail
  refine (ref_BitsErr zs ao cap _ H1w.out).mono ?_
  rw [HZ.out]
  rintro e w' ⟨rfl, n2, rfl⟩
  go_wp2_with fail
  refine (massey_Check zs ao cap _ (H1w.out.drew _)).mono ?_
  rw [HZ.out]
  rintro e w' ⟨rfl, n3, rfl⟩
  go_wp2_with fail
  have hcr := ref_BitsErr (bitsL L c) ro rc (w1.drewN (n2 + n3)) (hRI.out.drew _)
  rw [hRL.out, hRC.out] at hcr
  have HCR := Lib.hid hcr
  clear hcr
  refine HCR.out.mono ?_
  rintro e w' ⟨rfl, n4, rfl⟩
  go_wp2_with fail
  obtain ⟨wq, hwq⟩ : ∃ wq, w1.drewN (n2 + n3 + n4) = wq := ⟨_, rfl⟩
  have HBq : Hid (Below w.heap.size w wq) := by rw [← hwq]; exact below_drewN HB1.out _
  have H1q : Hid (IntsIn .u8 wq ao zs.length zs) := by rw [← hwq]; exact H1w.out.drew _
  have H2q : Hid (IntsIn .u8 wq bo rs.length rs) := by rw [← hwq]; exact H2w.out.drew _
  have HSq : Hid (Reads wq ao (rowF zs.length (bvV s))) := by rw [← hwq]; exact HSw.out.drew _
  have HRq : Hid (Reads wq ro (rowF L (bvV c))) := by rw [← hwq]; exact HRR.out.drew _
  rw [hwq]
  clear hwq HCR H1w H2w HSw HRR hRI
  refine (ref_Hangs s zs.length ao cap _ hn60 HSq.out L hLN c HG.out HMIN.out).mono ?_
  rintro e w2 ⟨rfl, hb2⟩
  have HB2 := Lib.hid (HBq.out.trans (Below.mono hb2 HBq.out.size))
  have H12 := Lib.hid (H1q.out.below hb2)
  have H22 := Lib.hid (H2q.out.below hb2)
  have HS2 := Lib.hid (HSq.out.below hb2)
  have HR2 := Lib.hid (HRq.out.below hb2)
  clear hb2
  go_wp2_with fail
  refine (ref_Makes s c zs.length L ao ro cap rc _ (by omega) (by omega) HS2.out HR2.out HG.out).mono ?_
  rintro e w' ⟨rfl, rfl⟩
  go_wp2_with fail
  refine (ref_BitsErr rs bo cap2 _ H22.out).mono ?_
  rw [HQ.out]
  rintro e w' ⟨rfl, n5, rfl⟩
  rcases hr with hr | ⟨hr, hlt⟩
  · have g1 : (q == 0) = false := by simpa using hr
    have g2 : (q != 0) = true := by simpa using hr
    have g3 : Hid (E = q) := by show _ = _; rw [← hE, if_pos hr]
    have g4 : (E == q) = true := by rw [g3.out]; simp
    clear hr hE
    go_wp2_with fail
    go_ret
    exact ⟨by simp, below_drewN HB2.out _⟩
  · have g1 : (q == 0) = true := by simp [hr]
    have g4 : (E == 7) = true := by rw [← hE, if_neg (by simp [hr])]; simp
    have f3 : decide ((zs.length : Int) < rs.length) = true := by simp; omega
    have f4 : decide (zs.length < rs.length) = true := by simp; omega
    clear hr hE
    go_wp2_with fail
    go_ret
    exact ⟨by simp, below_drewN HB2.out _⟩

theorem mk_reads (s : Nat → Bool) (B : Bool) (n m : Nat) : rowF m (bvV fun j => s (n - m + j)) ++ [.int .u8 (bv B)] = rowF (m + 1) (bvV fun j => if j < m then s (n - m + j) else B) := by
  rw [rowF_succ]
  congr 1
  · exact rowF_congr fun j hj => by unfold bvV; simp only; rw [if_pos hj]
  · unfold bvV; simp
theorem mk_gens (s c : Nat → Bool) (B : Bool) (n m : Nat) (hm : m ≤ n) (hB : B = xs m fun k => c k && s (n - 1 - k)) : gens (fun j => if j < m then s (n - m + j) else B) c m (m + 1) := by
  intro j h1 h2
  obtain rfl : j = m := by omega
  simp only [Nat.lt_irrefl, if_false]
  rw [hB]
  refine xs_congr fun k hk => ?_
  rw [if_pos (by omega), show n - j + (j - 1 - k) = n - 1 - k by omega]

end Go.Proofs.Ytonphmkilikapaa
