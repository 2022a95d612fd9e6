/- points.Through: LAGRANGE's polynomial. -/
import Derived.Test.YtiljppeamdoocaaPoints1
import Derived.Test.YtiljppeamdoocaaPointsM
import Derived.Test.YtiljppeamdoocaaPolyA
namespace Go.Proofs.Ytiljppeamdoocaa
open Go.RowKit

def xs (l : Pts) (k : Nat) : Int := (l[k]?.getD (0, 0)).1
def ys (l : Pts) (k : Nat) : Int := (l[k]?.getD (0, 0)).2
theorem xs_get {l : Pts} {k : Nat} {z : Int × Int} (h : l[k]? = some z) : xs l k = z.1 := by unfold xs; rw [h]; rfl
theorem ys_get {l : Pts} {k : Nat} {z : Int × Int} (h : l[k]? = some z) : ys l k = z.2 := by unfold ys; rw [h]; rfl
theorem pts_get {l : Pts} {k : Nat} (h : k < l.length) : l[k]? = some (xs l k, ys l k) := by
  unfold xs ys
  rw [List.getElem?_eq_getElem h]; rfl
theorem PtsOk.xb {p : Int} {l : Pts} (h : PtsOk p l) {k : Nat} (hk : k < l.length) : 0 ≤ xs l k ∧ xs l k < p ∧ 0 ≤ ys l k ∧ ys l k < p := h.bd k _ (pts_get hk)
theorem PtsOk.xne {p : Int} {l : Pts} (h : PtsOk p l) {i k : Nat} (hi : i < l.length) (hk : k < l.length) (hne : k ≠ i) : ¬ p ∣ xs l i - xs l k := by
  have h1 := h.xb hi
  have h2 := h.xb hk
  refine diff_ne (by have := h.p1; omega) h1.1 h1.2.1 h2.1 h2.2.1 ?_
  rcases Nat.lt_or_gt_of_ne hne with hlt | hlt
  · exact fun e => h.ne i k _ _ hlt (pts_get hi) (pts_get hk) e.symm
  · exact fun e => h.ne k i _ _ hlt (pts_get hk) (pts_get hi) e
noncomputable def ivI (p : Int) (l : Pts) (i : Nat) : Int := bezX (pz (xs l) i (xs l i) l.length % p) p
theorem ivI_ok {p : Int} {l : Pts} (h : PtsOk p l) {i : Nat} (hi : i < l.length) : 0 ≤ ivI p l i ∧ ivI p l i < p ∧ ivI p l i * pz (xs l) i (xs l i) l.length % p = 1 ∧ gI (pz (xs l) i (xs l i) l.length % p) p = 1 := by
  have h1 := h.p1
  have hn := pz_ne h.pr (by omega) (xs l) i l.length fun k hk hne => h.xne hi hk hne
  have h0 : 0 ≤ pz (xs l) i (xs l i) l.length % p := Int.emod_nonneg _ (by omega)
  have h2 : pz (xs l) i (xs l i) l.length % p < p := Int.emod_lt_of_pos _ (by omega)
  have h3 : pz (xs l) i (xs l i) l.length % p ≠ 0 := fun e => hn (Int.dvd_of_emod_eq_zero e)
  have hg := gI_prime h.pr (show 0 < pz (xs l) i (xs l i) l.length % p by omega) h2
  rw [Int.emod_emod_of_dvd _ (Int.dvd_refl p)] at hg
  obtain ⟨b1, b2, b3⟩ := bez_inv (show 1 ≤ p by omega) hg
  refine ⟨b1, b2, ?_, hg⟩
  have e1 : (1 : Int) % p = 1 := Int.emod_eq_of_lt (by omega) (by omega)
  rw [e1] at b3
  unfold ivI
  generalize bezX (pz (xs l) i (xs l i) l.length % p) p = x at b3 ⊢
  rw [Int.mul_emod, Int.emod_emod_of_dvd _ (Int.dvd_refl p), ← Int.mul_emod] at b3
  exact b3
noncomputable def vI (p : Int) (l : Pts) (i : Nat) : Int := ys l i * ivI p l i
def thrV (p : Int) (l : Pts) (V : Nat → Int) (i : Nat) (S : Nat → Int) : Prop := (∀ k, 0 ≤ S k ∧ S k < p) ∧ ∀ z, evn z S l.length % p = lsum (xs l) V l.length z i % p
/-- What Through answers. -/
def ThrIs (p : Int) (l : Pts) (h : List Int) : Prop := Trm h ∧ InF p h ∧ h.length ≤ l.length ∧ ∀ z, evp z h % p = lsum (xs l) (vI p l) l.length z l.length % p
theorem thr_end {p : Int} {l : Pts} (hp : 0 < p) {S : Nat → Int} (h : thrV p l (vI p l) l.length S) : ThrIs p l (trim (mkL l.length S)) := by
  have hc : ∀ k, co (trim (mkL l.length S)) k = if k < l.length then S k else 0 := fun k => by rw [co_trim, co_mkL]
  have hl : (trim (mkL l.length S)).length ≤ l.length := by
    rw [length_trim]
    exact Nat.le_trans (tlen_le _) (by rw [mkL_length]; exact Nat.le_refl _)
  refine ⟨trm_trim _, InF.of_co fun k => ?_, hl, fun z => ?_⟩
  · rw [hc]
    split
    · exact h.1 k
    · omega
  · rw [← evp_more z _ hl, evn_congr z p (d := S) _ (fun k hk => by rw [hc, if_pos hk])]
    exact h.2 z
def addI (p : Int) (S : Nat → Int) (F : List Int) (v : Int) (j k : Nat) : Int := if k < j then (S k + co F k * v) % p else S k
theorem addI_step (p : Int) (S : Nat → Int) (F : List Int) (v : Int) (j k : Nat) : addI p S F v (j + 1) k = if k = j then (S j + co F j * v) % p else addI p S F v j k := by
  unfold addI
  by_cases h : k = j
  · subst h; rw [if_pos rfl, if_pos (by omega)]
  · rw [if_neg h]
    by_cases h2 : k < j
    · rw [if_pos h2, if_pos (by omega)]
    · rw [if_neg h2, if_neg (by omega)]
theorem thr_step {p : Int} {l : Pts} (hp : 0 < p) {S : Nat → Int} {F : List Int} {i : Nat} (h : thrV p l (vI p l) i S) (hl : F.length ≤ l.length) (hF : ∀ z, evp z F % p = ys l i * pz (xs l) i z l.length % p) : thrV p l (vI p l) (i + 1) (addI p S F (ivI p l i) F.length) := by
  have hm : ∀ k, addI p S F (ivI p l i) F.length k % p = (S k + co F k * ivI p l i) % p := by
    intro k
    unfold addI
    split
    · rw [Int.emod_emod_of_dvd _ (Int.dvd_refl p)]
    · rw [co_out (by omega), Int.zero_mul, Int.add_zero]
  refine ⟨fun k => ?_, fun z => ?_⟩
  · unfold addI
    split
    · exact ⟨Int.emod_nonneg _ (by omega), Int.emod_lt_of_pos _ hp⟩
    · exact h.1 k
  · rw [evn_congr z p (d := fun k => S k + co F k * ivI p l i) _ (fun k _ => hm k), evn_add, evn_smul, evp_more z F hl, Int.add_emod, h.2 z, Int.mul_emod, hF z, ← Int.mul_emod, ← Int.add_emod]
    show _ = (lsum (xs l) (vI p l) l.length z i + vI p l i * pz (xs l) i z l.length) % p
    unfold vI
    congr 2
    grind
theorem pz_succ (X : Nat → Int) (i : Nat) (z : Int) (k : Nat) : pz X i z (k + 1) = if k = i then pz X i z k else pz X i z k * (z - X k) := rfl
theorem fac_step {p : Int} {l : Pts} {F F' : List Int} {a : Int} {i k : Nat} (hk : k ≠ i) (ha : a % p = (p - xs l k) % p) (hF : ∀ z, evp z F % p = ys l i * pz (xs l) i z k % p) (hp : IsPol p (conv F [a, 1]) F') : ∀ z, evp z F' % p = ys l i * pz (xs l) i z (k + 1) % p := by
  intro z
  rw [evp_pair hp, Int.mul_emod, hF z, Int.add_emod, ha, ← Int.add_emod, ← Int.mul_emod]
  rw [pz_succ, if_neg hk]
  have e : ys l i * pz (xs l) i z k * (p - xs l k + z) = ys l i * (pz (xs l) i z k * (z - xs l k)) + p * (ys l i * pz (xs l) i z k) := by grind
  rw [e, Int.add_mul_emod_self_left]
theorem fac_len {p : Int} {F F' : List Int} {a : Int} (hp : IsPol p (conv F [a, 1]) F') : F'.length ≤ F.length + 1 := hp.len fun k hk => by
  rw [conv_pair]
  unfold shf
  rw [if_pos (by omega), co_out (by omega), co_out (by omega)]
  simp
theorem d_step {p d : Int} {l : Pts} {i k : Nat} (hk : k ≠ i) (hd : d = pz (xs l) i (xs l i) k % p) : d * (xs l i - xs l k + p) % p = pz (xs l) i (xs l i) (k + 1) % p := by
  rw [pz_succ, if_neg hk, hd, Int.mul_emod, Int.emod_emod_of_dvd _ (Int.dvd_refl p), ← Int.mul_emod]
  have e : pz (xs l) i (xs l i) k * (xs l i - xs l k + p) = pz (xs l) i (xs l i) k * (xs l i - xs l k) + p * pz (xs l) i (xs l i) k := by grind
  rw [e, Int.add_mul_emod_self_left]
set_option maxRecDepth 20000 in
set_option maxHeartbeats 1000000 in
theorem points_Through_bad (p : Int) (l : Pts) (n : Nat) (ao : Option Addr) (cap : Nat) (w : World) (hp : (Lit.int .i64 p).wf = true) (hl : l.length = n) (h63 : n ≤ 9223372036854775807) (hc : n ≤ cap) (hR : Hid (Reads w ao (cells2 (l.map pV)))) (hb : ptsE p l ≠ 0) :
    Calls Try.prog 19 #[.int .i64 p, .slice ao n cap] w fun e w' => e = .returned (.tuple #[.slice none 0 0, .int .i64 (ptsE p l)]) ∧ Below w.heap.size w w' := by
  have C1 := Lib.hid (points_Check p l n ao cap w hp hl h63 hc hR)
  obtain ⟨c, hcc⟩ : ∃ c, ptsE p l = c := ⟨_, rfl⟩
  rw [hcc] at C1 hb ⊢
  have hc0 : (c != 0) = true := by simp [hb]
  clear hp hl hb hcc
  go_enter Try.func19, Try.ntmps19
  go_wp2_with (go_at_call 49; refine C1.out.mono ?_; rintro e w' ⟨rfl, hb1⟩)
  go_ret2
  exact ⟨rfl, hb1⟩
def ThrPost (p : Int) (l : Pts) (w : World) (e : Ending) (w' : World) : Prop :=
  ∃ h v, ThrIs p l h ∧ Below w.heap.size w w' ∧ e = .returned (.tuple #[v, .int .i64 0]) ∧ w'.ownsRow w.heap.size 3 1 v h.length (h.map (Value.int .i64))
/-- The slice of the terms' polynomial does not lie in block G. -/
def Off (G : Nat) (ao : Option Addr) : Prop := ∀ a, ao = some a → a.block ≠ G
theorem reads_off {w : World} {ao : Option Addr} {G j : Nat} {xs : List Value} {v : Value} (h : Reads w ao xs) (ho : Off G ao) : Reads (w.setCell ⟨G, j, none⟩ v) ao xs := by
  intro i u hu
  obtain ⟨b, o, rfl, hc⟩ := h i u hu
  have hne : b ≠ G := ho ⟨b, o, none⟩ rfl
  exact ⟨b, o, rfl, (World.cell?_of_block (heap_set_far v (fun e => hne e.symm))).trans hc⟩
set_option maxRecDepth 100000 in
set_option maxHeartbeats 4000000 in
theorem points_Through (p : Int) (l : Pts) (n : Nat) (ao : Option Addr) (cap : Nat) (w : World) (hp : (Lit.int .i64 p).wf = true) (hl : l.length = n) (hc : n ≤ cap) (hR : Hid (Reads w ao (cells2 (l.map pV)))) (hok : ptsE p l = 0) :
    Calls Try.prog 19 #[.int .i64 p, .slice ao n cap] w (ThrPost p l w) := by
  have OP := Lib.hid (ptsOk_of hok)
  have p1 := OP.out.p1
  have p2 := OP.out.p2
  have l1 := OP.out.len
  rw [hl] at l1
  have C1 := Lib.hid (points_Check p l n ao cap w hp hl (by omega) hc hR)
  rw [hok] at C1
  have HL := Lib.hid hl
  have hp0 : ¬ p = 0 := by omega
  clear hp hl hok
  go_enter Try.func19, Try.ntmps19
  go_wp2_with (first | (go_at_call 49; refine C1.out.mono ?_; rintro e w1 ⟨rfl, hb1⟩) | (at_make; refine make_own rfl _ _ 24 rfl w.heap.size 3 _ 8 Try.underlying24 intRow rfl _ _ _ _ n (by rfl) (by rfl) rfl rfl (by omega) (by unfold maxLen; omega) hb1.size ?_; intro w2 hown hg2))
  obtain ⟨G, hgs⟩ : ∃ g, w1.heap.size = g := ⟨_, rfl⟩
  rw [hgs] at hown ⊢
  have hGw : w.heap.size ≤ G := by have := hb1.size; omega
  have HO0 : Hid (Own w2 w.heap.size 3 G n n (iV fun _ => 0)) := hown
  have HB0 : Hid (Below w.heap.size w w2) := hb1.trans (below_of_grown hg2 hb1.size (by intro k hk; cases hk))
  have HT0 : Hid (thrV p l (vI p l) 0 fun _ => 0) := ⟨fun k => ⟨Int.le_refl _, by show (0 : Int) < p; omega⟩, fun z => by rw [evn_zero]; rfl⟩
  clear hown hg2 hb1 hgs
  go_loopw [29] (fun vx wr => ∃ (i : Nat) (S : Nat → Int), vx = .int .i64 i ∧ i ≤ n ∧ Hid (thrV p l (vI p l) i S) ∧ Hid (Own wr w.heap.size 3 G n n (iV S)) ∧ Hid (Below w.heap.size w wr)) (fun vx _ => n - (intOf vx).toNat)
  case atStart => exact ⟨0, _, rfl, by omega, HT0, HO0, HB0⟩
  case round =>
    obtain ⟨i, S, rfl, hin, hT, hO, hb⟩ := hrel
    by_cases hi1 : i < n
    · have hil : i < l.length := by rw [HL.out]; exact hi1
      obtain ⟨b, o, rfl, c1, c2⟩ := pair_cells (hR.out.below hb.out) (pts_get hil)
      have hxb := OP.out.xb hil
      obtain ⟨x, hx⟩ : ∃ x, xs l i = x := ⟨_, rfl⟩
      obtain ⟨y, hy⟩ : ∃ y, ys l i = y := ⟨_, rfl⟩
      dsimp only at c1 c2
      rw [hx] at c1
      rw [hy] at c2
      rw [hx, hy] at hxb
      have HX := Lib.hid hx
      have HY := Lib.hid hy
      have HIL := Lib.hid hil
      have e1p : Hid ((1 : Int) = pz (xs l) i (xs l i) 0 % p) := by show (1 : Int) = 1 % p; rw [Int.emod_eq_of_lt (by omega) (by omega)]
      clear hx hy hil
      go_wp2_with fail
      obtain ⟨B, hB⟩ : ∃ B, wr.heap.size = B := ⟨_, rfl⟩
      have hGB : G < B := by have := hO.out.lt.2; omega
      obtain ⟨wx, hwx⟩ : ∃ wx, (wr.alloc (.cells #[.int .i64 x, .int .i64 y] 71)).alloc (.cells #[.int .i64 y] 3) = wx := ⟨_, rfl⟩
      have hbx1 : Hid (wx.heap[B]? = some (.cells #[.int .i64 x, .int .i64 y] 71 (0, 0))) := by show _ = _; rw [← hwx, ← hB]; exact heap_alloc_old _ _ (heap_alloc_new wr _)
      have hrd1 : Hid (Reads wx (some ⟨B + 1, 0, none⟩) ([y].map (Value.int .i64))) := by
        show Reads _ _ _
        rw [← hwx, ← hB]
        have := reads_new (wr.alloc (.cells #[.int .i64 x, .int .i64 y] 71)) #[.int .i64 y] 3
        rwa [World.size_alloc] at this
      have hwb : Below wr.heap.size wr wx := by rw [← hwx]; exact ((Below.refl _ wr).alloc (Nat.le_refl _) _).alloc (by simp) _
      have HO1 := Lib.hid (hO.out.below hwb)
      have HB1 := Lib.hid (hb.out.trans (hwb.mono hb.out.size))
      have hF0 : Hid (InF p [y] ∧ ∀ z, evp z [y] % p = ys l i * pz (xs l) i z 0 % p) := ⟨by intro u hu; simp at hu; subst hu; exact ⟨hxb.2.2.1, hxb.2.2.2⟩, fun z => by
        show (0 + co [y] 0 * z ^ 0) % p = ys l i * 1 % p
        rw [co_cons_zero, Int.pow_zero, HY.out, Int.zero_add]⟩
      have hoff : Off G (some ⟨B + 1, 0, none⟩) := fun a ha => by injection ha with ha; subst ha; show B + 1 ≠ G; omega
      have HOF := Lib.hid hoff
      rw [hB, hwx]
      clear hB hwx hwb hO hb hoff
      go_loopw [10, 11, 39] (fun v10 v11 v39 wi => ∃ (k mF cF : Nat) (F : List Int) (aF : Option Addr) (d : Int), v39 = .int .i64 k ∧ k ≤ n ∧ v10 = .slice aF mF cF ∧ v11 = .int .i64 d ∧ mF ≤ 13 ∧ Hid (mF = F.length ∧ mF ≤ if k ≤ i then k + 1 else k) ∧ Hid (InF p F ∧ ∀ z, evp z F % p = ys l i * pz (xs l) i z k % p) ∧ Hid (Reads wi aF (F.map (Value.int .i64))) ∧ Hid (Off G aF) ∧ 0 ≤ d ∧ d < p ∧ Hid (d = pz (xs l) i (xs l i) k % p) ∧ Hid (Own wi w.heap.size 3 G n n (iV S)) ∧ Hid (wi.heap[B]? = some (.cells #[.int .i64 x, .int .i64 y] 71 (0, 0))) ∧ Hid (Below w.heap.size w wi)) (fun _ _ v39 _ => n - (intOf v39).toNat)
      case atStart => exact ⟨0, 1, 1, [y], some ⟨B + 1, 0, none⟩, 1, rfl, by omega, rfl, rfl, by omega, ⟨rfl, by rw [if_pos (by omega)]; exact Nat.le_refl _⟩, hF0, hrd1, HOF, by omega, by omega, e1p, HO1, hbx1, HB1⟩
      case round =>
        obtain ⟨k, mF, cF, F, aF, d, rfl, hkn, rfl, rfl, hm13, hmF, hF, hrd, hof, hd0, hd1, hde, hO, hbx, hb⟩ := hrel
        have k1 : wr.cell? ⟨B, 0, none⟩ = some (.int .i64 x) := heap_cell hbx.out 0
        have k2 : wr.cell? ⟨B, 1, none⟩ = some (.int .i64 y) := heap_cell hbx.out 1
        by_cases hk1 : k < n
        · obtain ⟨b3, o3, ha3, c3, c4⟩ := pair_cells (hR.out.below hb.out) (pts_get (l := l) (k := k) (by rw [HL.out]; exact hk1))
          injection ha3 with ha3
          injection ha3 with e1 e2
          subst e1 e2
          have hxk := OP.out.xb (k := k) (by rw [HL.out]; exact hk1)
          obtain ⟨x2, hx2⟩ : ∃ x, xs l k = x := ⟨_, rfl⟩
          obtain ⟨y2, hy2⟩ : ∃ y, ys l k = y := ⟨_, rfl⟩
          dsimp only at c3 c4
          rw [hx2] at c3 hxk
          rw [hy2] at c4 hxk
          have HX2 := Lib.hid hx2
          clear hx2 hy2
          by_cases hki : k = i
          · have t1 : ((k : Int) != (i : Int)) = false := by simp; omega
            have hF2 : Hid (InF p F ∧ ∀ z, evp z F % p = ys l i * pz (xs l) i z (k + 1) % p) := ⟨hF.out.1, fun z => by rw [pz_succ, if_pos hki]; exact hF.out.2 z⟩
            have hde2 : Hid (d = pz (xs l) i (xs l i) (k + 1) % p) := by show _ = _; rw [pz_succ, if_pos hki]; exact hde.out
            have hmF2 : Hid (mF = F.length ∧ mF ≤ if k + 1 ≤ i then k + 1 + 1 else k + 1) := ⟨hmF.out.1, by
              have h := hmF.out.2
              rw [if_pos (by omega)] at h
              rw [if_neg (by omega)]; exact h⟩
            have hbb : Below wr.heap.size wr (wr.alloc (.cells #[.int .i64 x2, .int .i64 y2] 71)) := (Below.refl _ wr).alloc (Nat.le_refl _) _
            have hrd2 := Lib.hid (hrd.out.below hbb)
            have hO2 := Lib.hid (hO.out.below hbb)
            have hbx2 : Hid ((wr.alloc (.cells #[.int .i64 x2, .int .i64 y2] 71)).heap[B]? = some (.cells #[.int .i64 x, .int .i64 y] 71 (0, 0))) := heap_alloc_old _ _ hbx.out
            have hb2 := Lib.hid (hb.out.trans (hbb.mono hb.out.size))
            clear hki hbb hrd hO hbx hb hF hde hmF
            go_wp2_with fail
            go_roundw
            case rel => exact ⟨k + 1, mF, cF, F, aF, d, by go_num, by omega, rfl, rfl, hm13, hmF2, hF2, hrd2, hof, hd0, hd1, hde2, hO2, hbx2, hb2⟩
            case measure => simp [intOf]; omega
          · have t1 : ((k : Int) != (i : Int)) = true := by simp; omega
            obtain ⟨a, hae⟩ : ∃ a, (p - x2) % p = a := ⟨_, rfl⟩
            have hab := pol_bd (by omega) p2 _ hae.symm
            have hap : a < p := by rw [← hae]; exact Int.emod_lt_of_pos _ (by omega)
            have w1 : IntKind.i64.wrap (p - x2) = p - x2 := IntWalk.i64_in _ (by omega)
            have hat : Int.tmod (p - x2) p = a := by rw [Int.tmod_eq_emod_of_nonneg (by omega)]; exact hae
            have wa : IntKind.i64.wrap a = a := IntWalk.i64_in _ (by omega)
            have w2 : IntKind.i64.wrap (x - x2) = x - x2 := IntWalk.i64_in _ (by omega)
            have w3 : IntKind.i64.wrap (x - x2 + p) = x - x2 + p := IntWalk.i64_in _ (by omega)
            have hq := mul_bd hd0 (show d ≤ 2000 by omega) (show 0 ≤ x - x2 + p by omega) (show x - x2 + p ≤ 2000 by omega)
            obtain ⟨q, hqe⟩ : ∃ q, d * (x - x2 + p) = q := ⟨_, rfl⟩
            rw [hqe] at hq
            have wq : IntKind.i64.wrap q = q := IntWalk.i64_in _ (by omega)
            obtain ⟨d2, hd2⟩ : ∃ d2, q % p = d2 := ⟨_, rfl⟩
            have hdt : Int.tmod q p = d2 := by rw [Int.tmod_eq_emod_of_nonneg (by omega)]; exact hd2
            have hd2b : 0 ≤ d2 ∧ d2 < p := by rw [← hd2]; exact ⟨Int.emod_nonneg _ hp0, Int.emod_lt_of_pos _ (by omega)⟩
            have wd : IntKind.i64.wrap d2 = d2 := IntWalk.i64_in _ (by omega)
            have hde2 : Hid (d2 = pz (xs l) i (xs l i) (k + 1) % p) := by
              show _ = _
              rw [← hd2, ← hqe, ← HX.out, ← HX2.out]; exact d_step hki hde.out
            have hAe : Hid (a % p = (p - xs l k) % p) := by show _ = _; rw [HX2.out, ← hae, Int.emod_emod_of_dvd _ (Int.dvd_refl p)]
            have hIa : Hid (InF p [a, 1]) := by
              intro u hu
              simp at hu
              rcases hu with rfl | rfl
              · exact ⟨hab.1, hap⟩
              · omega
            have hKI := Lib.hid hki
            obtain ⟨wk, hwk⟩ : ∃ wk, (wr.alloc (.cells #[.int .i64 x2, .int .i64 y2] 71)).alloc (.cells #[.int .i64 a, .int .i64 1] 3) = wk := ⟨_, rfl⟩
            have hbb : Below wr.heap.size wr wk := by rw [← hwk]; exact ((Below.refl _ wr).alloc (Nat.le_refl _) _).alloc (by simp) _
            have hrd2 := Lib.hid (hrd.out.below hbb)
            have hra : Hid (Reads ((wr.alloc (.cells #[.int .i64 x2, .int .i64 y2] 71)).alloc (.cells #[.int .i64 a, .int .i64 1] 3)) (some ⟨wr.heap.size + 1, 0, none⟩) ([a, 1].map (Value.int .i64))) := by
              show Reads _ _ _
              have := reads_new (wr.alloc (.cells #[.int .i64 x2, .int .i64 y2] 71)) #[.int .i64 a, .int .i64 1] 3
              rwa [World.size_alloc] at this
            have hO2 := hO.out.below hbb
            have hbx2 : Hid (wk.heap[B]? = some (.cells #[.int .i64 x, .int .i64 y] 71 (0, 0))) := by show _ = _; rw [← hwk]; exact heap_alloc_old _ _ (heap_alloc_old _ _ hbx.out)
            have hb2 := Lib.hid (hb.out.trans (hbb.mono hb.out.size))
            have hGk := hO2.lt.2
            have hBk := (Array.getElem?_eq_some_iff.1 hbx2.out).1
            have HO2 := Lib.hid hO2
            have CP := Lib.hid (poly_Product p F [a, 1] mF 2 aF (some ⟨wr.heap.size + 1, 0, none⟩) cF 2 wk p1 p2 hmF.out.1.symm rfl (by omega) (by omega) hF.out.1 hIa hrd2 (by rw [← hwk]; exact hra))
            rw [← hwk] at CP
            have HWK := Lib.hid hwk
            have hq3 : Hid (wk.heap[wr.heap.size]? = some (.cells #[.int .i64 x2, .int .i64 y2] 71 (0, 0))) := by show _ = _; rw [← hwk]; exact heap_alloc_old _ _ (heap_alloc_new wr _)
            have hq2 : wr.heap.size < wk.heap.size := (Array.getElem?_eq_some_iff.1 hq3.out).1
            have hm2 := Lib.hid hmF.out.2
            have hm3 := Lib.hid hmF.out.1
            have HF := hF
            clear hki hbb hrd hO hbx hb hF hde hmF hae hd2 hO2 hwk
            go_wp2_with (go_at_call 79; (with_reducible refine CP.out.mono ?_); rw [HWK.out]; rintro e w5 ⟨h5, hpol5, v5, rfl, hv1, hv2⟩; have q1 : w5.cell? ⟨B, 0, none⟩ = some (.int .i64 x) := heap_cell ((hv2.block _ hBk).trans hbx2.out) 0; have q2 : w5.cell? ⟨wr.heap.size, 0, none⟩ = some (.int .i64 x2) := heap_cell ((hv2.block _ hq2).trans hq3.out) 0)
            obtain ⟨a5, c5, rfl, r5, n5, k51, k52⟩ := own_data hv1
            have hof5 : Off G a5 := fun ad had => by
              subst had
              have := (hv1.lt ad.block rfl).1
              have h2 : G < wk.heap.size := hGk
              omega
            have hF5 : Hid (InF p h5 ∧ ∀ z, evp z h5 % p = ys l i * pz (xs l) i z (k + 1) % p) := ⟨hpol5.inF (by omega), fac_step hKI.out hAe.out HF.out.2 hpol5⟩
            have hl5 := fac_len hpol5
            have hm5 : Hid (h5.length = h5.length ∧ h5.length ≤ if k + 1 ≤ i then k + 1 + 1 else k + 1) := ⟨rfl, by
              have h := hm2.out
              have h3 := hm3.out
              have h4 := hKI.out
              by_cases hki2 : k + 1 ≤ i
              · rw [if_pos hki2]; rw [if_pos (by omega)] at h; omega
              · rw [if_neg hki2]; rw [if_neg (by omega)] at h; omega⟩
            have hm513 : h5.length ≤ 13 := by
              have h := hm5.out.2
              split at h <;> omega
            have HR5 := Lib.hid r5
            have HO5 : Hid (Own w5 w.heap.size 3 G n n (iV S)) := HO2.out.below hv2
            have HB5 : Hid (w5.heap[B]? = some (.cells #[.int .i64 x, .int .i64 y] 71 (0, 0))) := (hv2.block _ hBk).trans hbx2.out
            have HBl5 := Lib.hid (hb2.out.trans (hv2.mono hb2.out.size))
            have HOF5 := Lib.hid hof5
            clear hv1 hv2 hpol5 r5 hof5 hl5
            go_roundw
            case rel => exact ⟨k + 1, h5.length, c5, h5, a5, d2, by go_num, by omega, rfl, rfl, hm513, hm5, hF5, HR5, HOF5, hd2b.1, hd2b.2, hde2, HO5, HB5, HBl5⟩
            case measure => simp [intOf]; omega
        · have hkl : k = l.length := by rw [HL.out]; omega
          obtain ⟨v0, v1, v2, v3⟩ := ivI_ok OP.out HIL.out
          obtain ⟨v, hv⟩ : ∃ v, ivI p l i = v := ⟨_, rfl⟩
          have hdd : d % p = d := Int.emod_eq_of_lt hd0 hd1
          have hdp : d = pz (xs l) i (xs l i) l.length % p := by rw [← hkl]; exact hde.out
          have CI := Lib.hid (fun w => rest_Inverse d p w (by omega) (by omega) (by omega) (by omega) (by rw [hdd, hdp]; exact v3))
          have hbe : bezX (d % p) p = v := by rw [← hv, hdd, hdp]; rfl
          rw [hbe] at CI
          rw [hv] at v0 v1
          have HV := Lib.hid hv
          have hFn : F.length ≤ n := by
            have h := hmF.out
            rw [← h.1]
            have h2 := h.2
            rw [if_neg (by have := HIL.out; omega)] at h2
            omega
          have HFn : Hid (F.length ≤ l.length) := by show _ ≤ _; rw [HL.out]; exact hFn
          have hFz : Hid (∀ z, evp z F % p = ys l i * pz (xs l) i z l.length % p) := by rw [← hkl]; exact hF.out.2
          have hmn : mF ≤ n := by rw [hmF.out.1]; exact hFn
          have HmF : Hid (mF = F.length) := hmF.out.1
          have hIF := Lib.hid hF.out.1
          have hS0 : Hid (Own wr w.heap.size 3 G n n (iV (addI p S F v 0))) := hO.out.congr fun a _ => by unfold iV addI; rw [if_neg (by omega)]
          have hkn2 : k = n := by omega
          clear v2 v3 hv hdd hdp hbe hkl hF hmF hde hFn
          subst hkn2
          go_wp2_with (go_at_call 80; refine (CI.out _).mono ?_; rintro e w' ⟨rfl, n3, rfl⟩)
          have hO3 : Hid (Own (wr.drewN n3) w.heap.size 3 G k k (iV (addI p S F v 0))) := hS0.out.drewN n3
          have hrd3 : Hid (Reads (wr.drewN n3) aF (F.map (Value.int .i64))) := hrd.out.drew n3
          have hb3 : Hid (Below w.heap.size w (wr.drewN n3)) := below_drewN hb.out n3
          clear hO hrd hb hbx k1 k2 hS0
          go_loopw [77] (fun vj wi => ∃ j : Nat, vj = .int .i64 j ∧ j ≤ mF ∧ Hid (Own wi w.heap.size 3 G k k (iV (addI p S F v j))) ∧ Hid (Reads wi aF (F.map (Value.int .i64))) ∧ Hid (Below w.heap.size w wi)) (fun vj _ => mF - (intOf vj).toNat)
          case atStart => exact ⟨0, rfl, by omega, hO3, hrd3, hb3⟩
          case round =>
            obtain ⟨j, rfl, hjm, hO, hrd, hb⟩ := hrel
            by_cases hj1 : j < mF
            · obtain ⟨c, hc⟩ : ∃ c, co F j = c := ⟨_, rfl⟩
              obtain ⟨b7, o7, ha7, hcc⟩ := hrd.out j (.int .i64 c) (by rw [List.getElem?_map, co_some (by rw [← HmF.out]; exact hj1), hc]; rfl)
              have hcb := hIF.out.co (by omega) j
              rw [hc] at hcb
              have hjn : j < k := by omega
              obtain ⟨s, hs⟩ : ∃ s, S j = s := ⟨_, rfl⟩
              have hsb := hT.out.1 j
              rw [hs] at hsb
              have c7 := hO.out.cell hjn
              have f7 := hO.out.frozen j
              have hat : addI p S F v j j = s := by unfold addI; rw [if_neg (by omega), hs]
              unfold iV at c7
              rw [hat] at c7
              have hm1 := mul_bd hcb.1 (show c ≤ 996 by omega) v0 (show v ≤ 996 by omega)
              obtain ⟨m, hm⟩ : ∃ m, c * v = m := ⟨_, rfl⟩
              rw [hm] at hm1
              have wm : IntKind.i64.wrap m = m := IntWalk.i64_in _ (by omega)
              have ws : IntKind.i64.wrap (s + m) = s + m := IntWalk.i64_in _ (by omega)
              obtain ⟨r, hr⟩ : ∃ r, (s + m) % p = r := ⟨_, rfl⟩
              have hrt : Int.tmod (s + m) p = r := by rw [Int.tmod_eq_emod_of_nonneg (by omega)]; exact hr
              have hrb := pol_bd (by omega) p2 _ hr.symm
              have wr1 : IntKind.i64.wrap r = r := IntWalk.i64_in _ (by omega)
              have st := hO.out.store j (.int .i64 r)
              have hO4 := Lib.hid (st.1.congr (f' := iV (addI p S F v (j + 1))) fun a _ => by
                unfold iV
                rw [addI_step]
                by_cases ha : a = j
                · rw [if_pos ha, if_pos ha, hs, hc, hm, hr]
                · rw [if_neg ha, if_neg ha])
              have hb4 := Lib.hid (hO.out.belowStore hb.out (Nat.le_refl _) j (.int .i64 r))
              have hrd4 : Hid (Reads (wr.setCell ⟨G, j, none⟩ (.int .i64 r)) aF (F.map (Value.int .i64))) := reads_off hrd.out hof.out
              clear st hr hs hc hat
              subst ha7
              go_wp2_with fail
              go_roundw
              case rel => exact ⟨j + 1, by go_num, by omega, hO4, hrd4, hb4⟩
              case measure => simp [intOf]; omega
            · have hjF : j = F.length := by rw [← HmF.out]; omega
              have HT2 : Hid (thrV p l (vI p l) (i + 1) (addI p S F v F.length)) := by
                have h := thr_step (by omega) hT.out HFn.out hFz.out
                rw [HV.out] at h
                exact h
              have hO4 : Hid (Own wr w.heap.size 3 G k k (iV (addI p S F v F.length))) := by rw [← hjF]; exact hO
              clear hjF
              go_wp2_with fail
              go_roundw
              case rel => exact ⟨i + 1, _, by go_num, by omega, HT2, hO4, hb⟩
              case measure => simp [intOf]; omega
    · have hin2 : i = l.length := by rw [HL.out]; omega
      have hThr : Hid (ThrIs p l (trim (mkL n S))) := by
        have h := hT.out
        rw [hin2] at h
        have h2 := thr_end (by omega) h
        rw [HL.out] at h2
        exact h2
      have hR2 : Hid (Reads wr (some ⟨G, 0, none⟩) ((mkL n S).map (Value.int .i64))) := by
        show Reads _ _ _
        rw [map_mkL]; exact hO.out.reads
      clear hin2
      go_wp2_with (go_at_call 76; refine (poly_Trim (mkL n S) n (some ⟨G, 0, none⟩) n w.heap.size _ (by omega) (mkL_length _ _) (Nat.le_refl _) (by omega) (fun h => by cases h) hR2 hb.out.size).mono ?_; rintro e w' ⟨v, rfl, hv1, hv2⟩)
      go_ret2
      exact ⟨_, v, hThr.out, hb.out.trans (Below.mono hv2 (Nat.le_refl _)), rfl, hv1⟩
end Go.Proofs.Ytiljppeamdoocaa
