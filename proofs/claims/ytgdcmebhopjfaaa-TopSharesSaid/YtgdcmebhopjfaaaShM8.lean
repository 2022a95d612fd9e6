/- points.Through: LAGRANGE's polynomial. -/
import Derived.Test.YtgdcmebhopjfaaaShM6
import Derived.Test.YtgdcmebhopjfaaaShM7
import Derived.Test.YtgdcmebhopjfaaaShM5
import Derived.Test.YtgdcmebhopjfaaaRows
import Derived.Test.YtgdcmebhopjfaaaShM3
namespace Go.Proofs.Ytgdcmebhopjfaaa
open Go.RowKit

def xs (l : Pts) (k : Nat) : Int := (l[k]?.getD (0, 0)).1
def ys (l : Pts) (k : Nat) : Int := (l[k]?.getD (0, 0)).2
theorem xs_get {l : Pts} {k : Nat} {z : Int × Int} (h : l[k]? = some z) : xs l k = z.1 := by unfold xs; rw [h]; rfl
theorem ys_get {l : Pts} {k : Nat} {z : Int × Int} (h : l[k]? = some z) : ys l k = z.2 := by unfold ys; rw [h]; rfl
theorem pts_get {l : Pts} {k : Nat} (h : k < l.length) : l[k]? = some (xs l k, ys l k) := by
  unfold xs ys
  rw [List.getElem?_eq_getElem h]; rfl
theorem PtsOk.xb {p : Int} {l : Pts} (h : PtsOk p l) {k : Nat} (hk : k < l.length) : 0 ≤ xs l k ∧ xs l k < p ∧ 0 ≤ ys l k ∧ ys l k < p := h.bd k _ (pts_get hk)
theorem PtsOk.xne {p : Int} {l : Pts} (h : PtsOk p l) {i k : Nat} (hi : i < l.length) (hk : k < l.length) (hne : k ≠ i) : ¬ p ∣ xs l i - xs l k := by
  have h1 := h.xb hi
  have h2 := h.xb hk
  refine diff_ne (by have := h.p1; omega) h1.1 h1.2.1 h2.1 h2.2.1 ?_
  rcases Nat.lt_or_gt_of_ne hne with hlt | hlt
  · exact fun e => h.ne i k _ _ hlt (pts_get hi) (pts_get hk) e.symm
  · exact fun e => h.ne k i _ _ hlt (pts_get hk) (pts_get hi) e
noncomputable def ivI (p : Int) (l : Pts) (i : Nat) : Int := bezX (pz (xs l) i (xs l i) l.length % p) p
theorem ivI_ok {p : Int} {l : Pts} (h : PtsOk p l) {i : Nat} (hi : i < l.length) : 0 ≤ ivI p l i ∧ ivI p l i < p ∧ ivI p l i * pz (xs l) i (xs l i) l.length % p = 1 ∧ gI (pz (xs l) i (xs l i) l.length % p) p = 1 := by
  have h1 := h.p1
  have hn := pz_ne h.pr (by omega) (xs l) i l.length fun k hk hne => h.xne hi hk hne
  have h0 : 0 ≤ pz (xs l) i (xs l i) l.length % p := Int.emod_nonneg _ (by omega)
  have h2 : pz (xs l) i (xs l i) l.length % p < p := Int.emod_lt_of_pos _ (by omega)
  have h3 : pz (xs l) i (xs l i) l.length % p ≠ 0 := fun e => hn (Int.dvd_of_emod_eq_zero e)
  have hg := gI_prime h.pr (show 0 < pz (xs l) i (xs l i) l.length % p by omega) h2
  rw [Int.emod_emod_of_dvd _ (Int.dvd_refl p)] at hg
  obtain ⟨b1, b2, b3⟩ := bez_inv (show 1 ≤ p by omega) hg
  refine ⟨b1, b2, ?_, hg⟩
  have e1 : (1 : Int) % p = 1 := Int.emod_eq_of_lt (by omega) (by omega)
  rw [e1] at b3
  unfold ivI
  generalize bezX (pz (xs l) i (xs l i) l.length % p) p = x at b3 ⊢
  rw [Int.mul_emod, Int.emod_emod_of_dvd _ (Int.dvd_refl p), ← Int.mul_emod] at b3
  exact b3
noncomputable def vI (p : Int) (l : Pts) (i : Nat) : Int := ys l i * ivI p l i
def thrV (p : Int) (l : Pts) (V : Nat → Int) (i : Nat) (S : Nat → Int) : Prop := (∀ k, 0 ≤ S k ∧ S k < p) ∧ ∀ z, evn z S l.length % p = lsum (xs l) V l.length z i % p
/-- What Through answers. -/
def ThrIs (p : Int) (l : Pts) (h : List Int) : Prop := Trm h ∧ InF p h ∧ h.length ≤ l.length ∧ ∀ z, evp z h % p = lsum (xs l) (vI p l) l.length z l.length % p
theorem thr_end {p : Int} {l : Pts} (hp : 0 < p) {S : Nat → Int} (h : thrV p l (vI p l) l.length S) : ThrIs p l (trim (mkL l.length S)) := by
  have hc : ∀ k, co (trim (mkL l.length S)) k = if k < l.length then S k else 0 := fun k => by rw [co_trim, co_mkL]
  have hl : (trim (mkL l.length S)).length ≤ l.length := by
    rw [length_trim]
    exact Nat.le_trans (tlen_le _) (by rw [mkL_length]; exact Nat.le_refl _)
  refine ⟨trm_trim _, InF.of_co fun k => ?_, hl, fun z => ?_⟩
  · rw [hc]
    split
    · exact h.1 k
    · omega
  · rw [← evp_more z _ hl, evn_congr z p (d := S) _ (fun k hk => by rw [hc, if_pos hk])]
    exact h.2 z
def addI (p : Int) (S : Nat → Int) (F : List Int) (v : Int) (j k : Nat) : Int := if k < j then (S k + co F k * v) % p else S k
theorem addI_step (p : Int) (S : Nat → Int) (F : List Int) (v : Int) (j k : Nat) : addI p S F v (j + 1) k = if k = j then (S j + co F j * v) % p else addI p S F v j k := by
  unfold addI
  by_cases h : k = j
  · subst h; rw [if_pos rfl, if_pos (by omega)]
  · rw [if_neg h]
    by_cases h2 : k < j
    · rw [if_pos h2, if_pos (by omega)]
    · rw [if_neg h2, if_neg (by omega)]
theorem thr_step {p : Int} {l : Pts} (hp : 0 < p) {S : Nat → Int} {F : List Int} {i : Nat} (h : thrV p l (vI p l) i S) (hl : F.length ≤ l.length) (hF : ∀ z, evp z F % p = ys l i * pz (xs l) i z l.length % p) : thrV p l (vI p l) (i + 1) (addI p S F (ivI p l i) F.length) := by
  have hm : ∀ k, addI p S F (ivI p l i) F.length k % p = (S k + co F k * ivI p l i) % p := by
    intro k
    unfold addI
    split
    · rw [Int.emod_emod_of_dvd _ (Int.dvd_refl p)]
    · rw [co_out (by omega), Int.zero_mul, Int.add_zero]
  refine ⟨fun k => ?_, fun z => ?_⟩
  · unfold addI
    split
    · exact ⟨Int.emod_nonneg _ (by omega), Int.emod_lt_of_pos _ hp⟩
    · exact h.1 k
  · rw [evn_congr z p (d := fun k => S k + co F k * ivI p l i) _ (fun k _ => hm k), evn_add, evn_smul, evp_more z F hl, Int.add_emod, h.2 z, Int.mul_emod, hF z, ← Int.mul_emod, ← Int.add_emod]
    show _ = (lsum (xs l) (vI p l) l.length z i + vI p l i * pz (xs l) i z l.length) % p
    unfold vI
    congr 2
    grind
theorem pz_succ (X : Nat → Int) (i : Nat) (z : Int) (k : Nat) : pz X i z (k + 1) = if k = i then pz X i z k else pz X i z k * (z - X k) := rfl
theorem fac_step {p : Int} {l : Pts} {F F' : List Int} {a : Int} {i k : Nat} (hk : k ≠ i) (ha : a % p = (p - xs l k) % p) (hF : ∀ z, evp z F % p = ys l i * pz (xs l) i z k % p) (hp : IsPol p (conv F [a, 1]) F') : ∀ z, evp z F' % p = ys l i * pz (xs l) i z (k + 1) % p := by
  intro z
  rw [evp_pair hp, Int.mul_emod, hF z, Int.add_emod, ha, ← Int.add_emod, ← Int.mul_emod]
  rw [pz_succ, if_neg hk]
  have e : ys l i * pz (xs l) i z k * (p - xs l k + z) = ys l i * (pz (xs l) i z k * (z - xs l k)) + p * (ys l i * pz (xs l) i z k) := by grind
  rw [e, Int.add_mul_emod_self_left]
theorem fac_len {p : Int} {F F' : List Int} {a : Int} (hp : IsPol p (conv F [a, 1]) F') : F'.length ≤ F.length + 1 := hp.len fun k hk => by
  rw [conv_pair]
  unfold shf
  rw [if_pos (by omega), co_out (by omega), co_out (by omega)]
  simp
theorem d_step {p d : Int} {l : Pts} {i k : Nat} (hk : k ≠ i) (hd : d = pz (xs l) i (xs l i) k % p) : d * (xs l i - xs l k + p) % p = pz (xs l) i (xs l i) (k + 1) % p := by
  rw [pz_succ, if_neg hk, hd, Int.mul_emod, Int.emod_emod_of_dvd _ (Int.dvd_refl p), ← Int.mul_emod]
  have e : pz (xs l) i (xs l i) k * (xs l i - xs l k + p) = pz (xs l) i (xs l i) k * (xs l i - xs l k) + p * pz (xs l) i (xs l i) k := by grind
  rw [e, Int.add_mul_emod_self_left]
set_option maxRecDepth 20000 in
set_option maxHeartbeats 1000000 in
theorem points_Through_bad (p : Int) (l : Pts) (n : Nat) (ao : Option Addr) (cap : Nat) (w : World) (hp : (Lit.int .i64 p).wf = true) (hl : l.length = n) (h63 : n ≤ 9223372036854775807) (hc : n ≤ cap) (hR : Hid (Reads w ao (cells2 (l.map pV)))) (hb : ptsE p l ≠ 0) :
    Calls Try.prog 16 #[.int .i64 p, .slice ao n cap] w fun e w' => e = .returned (.tuple #[.slice none 0 0, .int .i64 (ptsE p l)]) ∧ Below w.heap.size w w' := by
  have C1 := Lib.hid (points_Check p l n ao cap w hp hl h63 hc hR)
  obtain ⟨c, hcc⟩ : ∃ c, ptsE p l = c := ⟨_, rfl⟩
  rw [hcc] at C1 hb ⊢
  have hc0 : (c != 0) = true := by simp [hb]
  clear hp hl hb hcc
  go_enter Try.func16, Try.ntmps16
  go_wp2_with (go_at_call 81; refine C1.out.mono ?_; rintro e w' ⟨rfl, hb1⟩)
  go_ret2
  exact ⟨rfl, hb1⟩
def ThrPost (p : Int) (l : Pts) (w : World) (e : Ending) (w' : World) : Prop :=
  ∃ h v, ThrIs p l h ∧ Below w.heap.size w w' ∧ e = .returned (.tuple #[v, .int .i64 0]) ∧ w'.ownsRow w.heap.size 3 1 v h.length (h.map (Value.int .i64))
/-- The slice of the terms' polynomial does not lie in block G. -/
def Off (G : Nat) (ao : Option Addr) : Prop := ∀ a, ao = some a → a.block ≠ G
theorem reads_off {w : World} {ao : Option Addr} {G j : Nat} {xs : List Value} {v : Value} (h : Reads w ao xs) (ho : Off G ao) : Reads (w.setCell ⟨G, j, none⟩ v) ao xs := by
  intro i u hu
  obtain ⟨b, o, rfl, hc⟩ := h i u hu
  have hne : b ≠ G := ho ⟨b, o, none⟩ rfl
  exact ⟨b, o, rfl, (World.cell?_of_block (heap_set_far v (fun e => hne e.symm))).trans hc⟩
set_option maxRecDepth 100000 in
set_option maxHeartbeats 4000000 in
theorem points_Through (p : Int) (l : Pts) (n : Nat) (ao : Option Addr) (cap : Nat) (w : World) (hp : (Lit.int .i64 p).wf = true) (hl : l.length = n) (hc : n ≤ cap) (hR : Hid (Reads w ao (cells2 (l.map pV)))) (hok : ptsE p l = 0) :
    Calls Try.prog 16 #[.int .i64 p, .slice ao n cap] w (ThrPost p l w) := by
  have OP := Lib.hid (ptsOk_of hok)
  have p1 := OP.out.p1
  have p2 := OP.out.p2
  have l1 := OP.out.len
  rw [hl] at l1
  have C1 := Lib.hid (points_Check p l n ao cap w hp hl (by omega) hc hR)
  rw [hok] at C1
  have HL := Lib.hid hl
  have hp0 : ¬ p = 0 := by omega
  clear hp hl hok
  go_enter Try.func16, Try.ntmps16
  go_wp2_with (first | (go_at_call 81; refine C1.out.mono ?_; rintro e w1 ⟨rfl, hb1⟩) | (at_make; refine make_own rfl _ _ 22 rfl w.heap.size 3 _ 8 Try.underlying22 intRow rfl _ _ _ _ n (by rfl) (by rfl) rfl rfl (by omega) (by unfold maxLen; omega) hb1.size ?_; intro w2 hown hg2))
  obtain ⟨G, hgs⟩ : ∃ g, w1.heap.size = g := ⟨_, rfl⟩
  rw [hgs] at hown ⊢
  have hGw : w.heap.size ≤ G := by have := hb1.size; omega
  have HO0 : Hid (Own w2 w.heap.size 3 G n n (iV fun _ => 0)) := hown
  have HB0 : Hid (Below w.heap.size w w2) := hb1.trans (below_of_grown hg2 hb1.size (by intro k hk; cases hk))
  have HT0 : Hid (thrV p l (vI p l) 0 fun _ => 0) := ⟨fun k => ⟨Int.le_refl _, by show (0 : Int) < p; omega⟩, fun z => by rw [evn_zero]; rfl⟩
  clear hown hg2 hb1 hgs
  go_loopw [29] (fun vx wr => ∃ (i : Nat) (S : Nat → Int), vx = .int .i64 i ∧ i ≤ n ∧ Hid (thrV p l (vI p l) i S) ∧ Hid (Own wr w.heap.size 3 G n n (iV S)) ∧ Hid (Below w.heap.size w wr)) (fun vx _ => n - (intOf vx).toNat)
  case atStart => exact ⟨0, _, rfl, by omega, HT0, HO0, HB0⟩
  case round =>
    obtain ⟨i, S, rfl, hin, hT, hO, hb⟩ := hrel
    by_cases hi1 : i < n
    · have hil : i < l.length := by rw [HL.out]; exact hi1
      obtain ⟨b, o, rfl, c1, c2⟩ := pair_cells (hR.out.below hb.out) (pts_get hil)
      have hxb := OP.out.xb hil
      obtain ⟨x, hx⟩ : ∃ x, xs l i = x := ⟨_, rfl⟩
      obtain ⟨y, hy⟩ : ∃ y, ys l i = y := ⟨_, rfl⟩
      dsimp only at c1 c2
      rw [hx] at c1
      rw [hy] at c2
      rw [hx, hy] at hxb
      have HX := Lib.hid hx
      have HY := Lib.hid hy
      have HIL := Lib.hid hil
      have e1p : Hid ((1 : Int) = pz (xs l) i (xs l i) 0 % p) := by show (1 : Int) = 1 % p; rw [Int.emod_eq_of_lt (by omega) (by omega)]
      clear hx hy hil
      go_wp2_with fail
      obtain ⟨B, hB⟩ : ∃ B, wr.heap.size = B := ⟨_, rfl⟩
      have hGB : G < B := by have := hO.out.lt.2; omega
      obtain ⟨wx, hwx⟩ : ∃ wx, (wr.alloc (.cells #[.int .i64 x, .int .i64 y] 114)).alloc (.cells #[.int .i64 y] 3) = wx := ⟨_, rfl⟩
      have hbx1 : Hid (wx.heap[B]? = some (.cells #[.int .i64 x, .int .i64 y] 114 (0, 0))) := by show _ = _; rw [← hwx, ← hB]; exact heap_alloc_old _ _ (heap_alloc_new wr _)
      have hrd1 : Hid (Reads wx (some ⟨B + 1, 0, none⟩) ([y].map (Value.int .i64))) := by
        show Reads _ _ _
        rw [← hwx, ← hB]
        have := reads_new (wr.alloc (.cells #[.int .i64 x, .int .i64 y] 114)) #[.int .i64 y] 3
        rwa [World.size_alloc] at this
      have hwb : Below wr.heap.size wr wx := by rw [← hwx]; exact ((Below.refl _ wr).alloc (Nat.le_refl _) _).alloc (by simp) _
      have HO1 := Lib.hid (hO.out.below hwb)
      have HB1 := Lib.hid (hb.out.trans (hwb.mono hb.out.size))
      have hF0 : Hid (InF p [y] ∧ ∀ z, evp z [y] % p = ys l i * pz (xs l) i z 0 % p) := ⟨by intro u hu; simp at hu; subst hu; exact ⟨hxb.2.2.1, hxb.2.2.2⟩, fun z => by
        show (0 + co [y] 0 * z ^ 0) % p = ys l i * 1 % p
        rw [co_cons_zero, Int.pow_zero, HY.out, Int.zero_add]⟩
      have hoff : Off G (some ⟨B + 1, 0, none⟩) := fun a ha => by injection ha with ha; subst ha; show B + 1 ≠ G; omega
      have HOF := Lib.hid hoff
      rw [hB, hwx]
      clear hB hwx hwb hO hb hoff
      go_loopw [10, 11, 39] (fun v10 v11 v39 wi => ∃ (k mF cF : Nat) (F : List Int) (aF : Option Addr) (d : Int), v39 = .int .i64 k ∧ k ≤ n ∧ v10 = .slice aF mF cF ∧ v11 = .int .i64 d ∧ mF ≤ 13 ∧ Hid (mF = F.length ∧ mF ≤ if k ≤ i then k + 1 else k) ∧ Hid (InF p F ∧ ∀ z, evp z F % p = ys l i * pz (xs l) i z k % p) ∧ Hid (Reads wi aF (F.map (Value.int .i64))) ∧ Hid (Off G aF) ∧ 0 ≤ d ∧ d < p ∧ Hid (d = pz (xs l) i (xs l i) k % p) ∧ Hid (Own wi w.heap.size 3 G n n (iV S)) ∧ Hid (wi.heap[B]? = some (.cells #[.int .i64 x, .int .i64 y] 114 (0, 0))) ∧ Hid (Below w.heap.size w wi)) (fun _ _ v39 _ => n - (intOf v39).toNat)
      case atStart => exact ⟨0, 1, 1, [y], some ⟨B + 1, 0, none⟩, 1, rfl, by omega, rfl, rfl, by omega, ⟨rfl, by rw [if_pos (by omega)]; exact Nat.le_refl _⟩, hF0, hrd1, HOF, by omega, by omega, e1p, HO1, hbx1, HB1⟩
      case round =>
        obtain ⟨k, mF, cF, F, aF, d, rfl, hkn, rfl, rfl, hm13, hmF, hF, hrd, hof, hd0, hd1, hde, hO, hbx, hb⟩ := hrel
        have k1 : wr.cell? ⟨B, 0, none⟩ = some (.int .i64 x) := heap_cell hbx.out 0
        have k2 : wr.cell? ⟨B, 1, none⟩ = some (.int .i64 y) := heap_cell hbx.out 1
        by_cases hk1 : k < n
        · obtain ⟨b3, o3, ha3, c3, c4⟩ := pair_cells (hR.out.below hb.out) (pts_get (l := l) (k := k) (by rw [HL.out]; exact hk1))
          injection ha3 with ha3
          injection ha3 with e1 e2
          subst e1 e2
          have hxk := OP.out.xb (k := k) (by rw [HL.out]; exact hk1)
          obtain ⟨x2, hx2⟩ : ∃ x, xs l k = x := ⟨_, rfl⟩
          obtain ⟨y2, hy2⟩ : ∃ y, ys l k = y := ⟨_, rfl⟩
          dsimp only at c3 c4
          rw [hx2] at c3 hxk
          rw [hy2] at c4 hxk
          have HX2 := Lib.hid hx2
          clear hx2 hy2
          by_cases hki : k = i
          · have t1 : ((k : Int) != (i : Int)) = false := by simp; omega
            have hF2 : Hid (InF p F ∧ ∀ z, evp z F % p = ys l i * pz (xs l) i z (k + 1) % p) := ⟨hF.out.1, fun z => by rw [pz_succ, if_pos hki]; exact hF.out.2 z⟩
            have hde2 : Hid (d = pz (xs l) i (xs l i) (k + 1) % p) := by show _ = _; rw [pz_succ, if_pos hki]; exact hde.out
            have hmF2 : Hid (mF = F.length ∧ mF ≤ if k + 1 ≤ i then k + 1 + 1 else k + 1) := ⟨hmF.out.1, by
              have h := hmF.out.2
              rw [if_pos (by omega)] at h
              rw [if_neg (by omega)]; exact h⟩
            have hbb : Below wr.heap.size wr (wr.alloc (.cells #[.int .i64 x2, .int .i64 y2] 114)) := (Below.refl _ wr).alloc (Nat.le_refl _) _
            have hrd2 := Lib.hid (hrd.out.below hbb)
            have hO2 := Lib.hid (hO.out.below hbb)
            have hbx2 : Hid ((wr.alloc (.cells #[.int .i64 x2, .int .i64 y2] 114)).heap[B]? = some (.cells #[.int .i64 x, .int .i64 y] 114 (0, 0))) := heap_alloc_old _ _ hbx.out
            have hb2 := Lib.hid (hb.out.trans (hbb.mono hb.out.size))
            clear hki hbb hrd hO hbx hb hF hde hmF
            go_wp2_with fail
            go_roundw
            case rel => exact ⟨k + 1, mF, cF, F, aF, d, by go_num, by omega, rfl, rfl, hm13, hmF2, hF2, hrd2, hof, hd0, hd1, hde2, hO2, hbx2, hb2⟩
            case measure => simp [intOf]; omega
          · have t1 : ((k : Int) != (i : Int)) = true := by simp; omega
            obtain ⟨a, hae⟩ : ∃ a, (p - x2) % p = a := ⟨_, rfl⟩
            have hab := pol_bd (by omega) p2 _ hae.symm
            have hap : a < p := by rw [← hae]; exact Int.emod_lt_of_pos _ (by omega)
            have w1 : IntKind.i64.wrap (p - x2) = p - x2 := IntWalk.i64_in _ (by omega)
            have hat : Int.tmod (p - x2) p = a := by rw [Int.tmod_eq_emod_of_nonneg (by omega)]; exact hae
            have wa : IntKind.i64.wrap a = a := IntWalk.i64_in _ (by omega)
            have w2 : IntKind.i64.wrap (x - x2) = x - x2 := IntWalk.i64_in _ (by omega)
            have w3 : IntKind.i64.wrap (x - x2 + p) = x - x2 + p := IntWalk.i64_in _ (by omega)
            have hq := mul_bd hd0 (show d ≤ 2000 by omega) (show 0 ≤ x - x2 + p by omega) (show x - x2 + p ≤ 2000 by omega)
            obtain ⟨q, hqe⟩ : ∃ q, d * (x - x2 + p) = q := ⟨_, rfl⟩
            rw [hqe] at hq
            have wq : IntKind.i64.wrap q = q := IntWalk.i64_in _ (by omega)
            obtain ⟨d2, hd2⟩ : ∃ d2, q % p = d2 := ⟨_, rfl⟩
            have hdt : Int.tmod q p = d2 := by rw [Int.tmod_eq_emod_of_nonneg (by omega)]; exact hd2
            have hd2b : 0 ≤ d2 ∧ d2 < p := by rw [← hd2]; exact ⟨Int.emod_nonneg _ hp0, Int.emod_lt_of_pos _ (by omega)⟩
            have wd : IntKind.i64.wrap d2 = d2 := IntWalk.i64_in _ (by omega)
            have hde2 : Hid (d2 = pz (xs l) i (xs l i) (k + 1) % p) := by
              show _ = _
              rw [← hd2, ← hqe, ← HX.out, ← HX2.out]; exact d_step hki hde.out
            have hAe : Hid (a % p = (p - xs l k) % p) := by show _ = _; rw [HX2.out, ← hae, Int.emod_emod_of_dvd _ (Int.dvd_refl p)]
            have hIa : Hid (InF p [a, 1]) := by
              intro u hu
              simp at hu
              rcases hu with rfl | rfl
              · exact ⟨hab.1, hap⟩
              · omega
            have hKI := Lib.hid hki
            obtain ⟨wk, hwk⟩ : ∃ wk, (wr.alloc (.cells #[.int .i64 x2, .int .i64 y2] 114)).alloc (.cells #[.int .i64 a, .int .i64 1] 3) = wk := ⟨_, rfl⟩
            have hbb : Below wr.heap.size wr wk := by rw [← hwk]; exact ((Below.refl _ wr).alloc (Nat.le_refl _) _).alloc (by simp) _
            have hrd2 := Lib.hid (hrd.out.below hbb)
            have hra : Hid (Reads ((wr.alloc (.cells #[.int .i64 x2, .int .i64 y2] 114)).alloc (.cells #[.int .i64 a, .int .i64 1] 3)) (some ⟨wr.heap.size + 1, 0, none⟩) ([a, 1].map (Value.int .i64))) := by
              show Reads _ _ _
              have := reads_new (wr.alloc (.cells #[.int .i64 x2, .int .i64 y2] 114)) #[.int .i64 a, .int .i64 1] 3
              rwa [World.size_alloc] at this
            have hO2 := hO.out.below hbb
            have hbx2 : Hid (wk.heap[B]? = some (.cells #[.int .i64 x, .int .i64 y] 114 (0, 0))) := by show _ = _; rw [← hwk]; exact heap_alloc_old _ _ (heap_alloc_old _ _ hbx.out)
            have hb2 := Lib.hid (hb.out.trans (hbb.mono hb.out.size))
            have hGk := hO2.lt.2
            have hBk := (Array.getElem?_eq_some_iff.1 hbx2.out).1
            have HO2 := Lib.hid hO2
            have CP := Lib.hid (poly_Product p F [a, 1] mF 2 aF (some ⟨wr.heap.size + 1, 0, none⟩) cF 2 wk p1 p2 hmF.out.1.symm rfl (by omega) (by omega) hF.out.1 hIa hrd2 (by rw [← hwk]; exact hra))
            rw [← hwk] at CP
            have HWK := Lib.hid hwk
            have hq3 : Hid (wk.heap[wr.heap.size]? = some (.cells #[.int .i64 x2, .int .i64 y2] 114 (0, 0))) := by show _ = _; rw [← hwk]; exact heap_alloc_old _ _ (heap_alloc_new wr _)
            have hq2 : wr.heap.size < wk.heap.size := (Array.getElem?_eq_some_iff.1 hq3.out).1
            have hm2 := Lib.hid hmF.out.2
            have hm3 := Lib.hid hmF.out.1
            have HF := hF
            clear hki hbb hrd hO hbx hb hF hde hmF hae hd2 hO2 hwk
            go_wp2_with (go_at_call 82; (with_reducible refine CP.out.mono ?_); rw [HWK.out]; rintro e w5 ⟨h5, hpol5, v5, rfl, hv1, hv2⟩; have q1 : w5.cell? ⟨B, 0, none⟩ = some (.int .i64 x) := heap_cell ((hv2.block _ hBk).trans hbx2.out) 0; have q2 : w5.cell? ⟨wr.heap.size, 0, none⟩ = some (.int .i64 x2) := heap_cell ((hv2.block _ hq2).trans hq3.out) 0)
            obtain ⟨a5, c5, rfl, r5, n5, k51, k52⟩ := own_data hv1
            have hof5 : Off G a5 := fun ad had => by
              subst had
              have := (hv1.lt ad.block rfl).1
              have h2 : G < wk.heap.size := hGk
              omega
            have hF5 : Hid (InF p h5 ∧ ∀ z, evp z h5 % p = ys l i * pz (xs l) i z (k + 1) % p) := ⟨hpol5.inF (by omega), fac_step hKI.out hAe.out HF.out.2 hpol5⟩
            have hl5 := fac_len hpol5
            have hm5 : Hid (h5.length = h5.length ∧ h5.length ≤ if k + 1 ≤ i then k + 1 + 1 else k + 1) := ⟨rfl, by
              have h := hm2.out
              have h3 := hm3.out
              have h4 := hKI.out
              by_cases hki2 : k + 1 ≤ i
              · rw [if_pos hki2]; rw [if_pos (by omega)] at h; omega
              · rw [if_neg hki2]; rw [if_neg (by omega)] at h; omega⟩
            have hm513 : h5.length ≤ 13 := by
              have h := hm5.out.2
              split at h <;> omega
            have HR5 := Lib.hid r5
            have HO5 : Hid (Own w5 w.heap.size 3 G n n (iV S)) := HO2.out.below hv2
            have HB5 : Hid (w5.heap[B]? = some (.cells #[.int .i64 x, .int .i64 y] 114 (0, 0))) := (hv2.block _ hBk).trans hbx2.out
            have HBl5 := Lib.hid (hb2.out.trans (hv2.mono hb2.out.size))
            have HOF5 := Lib.hid hof5
            clear hv1 hv2 hpol5 r5 hof5 hl5
            go_roundw
            case rel => exact ⟨k + 1, h5.length, c5, h5, a5, d2, by go_num, by omega, rfl, rfl, hm513, hm5, hF5, HR5, HOF5, hd2b.1, hd2b.2, hde2, HO5, HB5, HBl5⟩
            case measure => simp [intOf]; omega
        · have hkl : k = l.length := by rw [HL.out]; omega
          obtain ⟨v0, v1, v2, v3⟩ := ivI_ok OP.out HIL.out
          obtain ⟨v, hv⟩ : ∃ v, ivI p l i = v := ⟨_, rfl⟩
          have hdd : d % p = d := Int.emod_eq_of_lt hd0 hd1
          have hdp : d = pz (xs l) i (xs l i) l.length % p := by rw [← hkl]; exact hde.out
          have CI := Lib.hid (fun w => rest_Inverse d p w (by omega) (by omega) (by omega) (by omega) (by rw [hdd, hdp]; exact v3))
          have hbe : bezX (d % p) p = v := by rw [← hv, hdd, hdp]; rfl
          rw [hbe] at CI
          rw [hv] at v0 v1
          have HV := Lib.hid hv
          have hFn : F.length ≤ n := by
            have h := hmF.out
            rw [← h.1]
            have h2 := h.2
            rw [if_neg (by have := HIL.out; omega)] at h2
            omega
          have HFn : Hid (F.length ≤ l.length) := by show _ ≤ _; rw [HL.out]; exact hFn
          have hFz : Hid (∀ z, evp z F % p = ys l i * pz (xs l) i z l.length % p) := by rw [← hkl]; exact hF.out.2
          have hmn : mF ≤ n := by rw [hmF.out.1]; exact hFn
          have HmF : Hid (mF = F.length) := hmF.out.1
          have hIF := Lib.hid hF.out.1
          have hS0 : Hid (Own wr w.heap.size 3 G n n (iV (addI p S F v 0))) := hO.out.congr fun a _ => by unfold iV addI; rw [if_neg (by omega)]
          have hkn2 : k = n := by omega
          clear v2 v3 hv hdd hdp hbe hkl hF hmF hde hFn
          subst hkn2
          go_wp2_with (go_at_call 83; refine (CI.out _).mono ?_; rintro e w' ⟨rfl, n3, rfl⟩)
          have hO3 : Hid (Own (wr.drewN n3) w.heap.size 3 G k k (iV (addI p S F v 0))) := hS0.out.drewN n3
          have hrd3 : Hid (Reads (wr.drewN n3) aF (F.map (Value.int .i64))) := hrd.out.drew n3
          have hb3 : Hid (Below w.heap.size w (wr.drewN n3)) := below_drewN hb.out n3
          clear hO hrd hb hbx k1 k2 hS0
          go_loopw [77] (fun vj wi => ∃ j : Nat, vj = .int .i64 j ∧ j ≤ mF ∧ Hid (Own wi w.heap.size 3 G k k (iV (addI p S F v j))) ∧ Hid (Reads wi aF (F.map (Value.int .i64))) ∧ Hid (Below w.heap.size w wi)) (fun vj _ => mF - (intOf vj).toNat)
          case atStart => exact ⟨0, rfl, by omega, hO3, hrd3, hb3⟩
          case round =>
            obtain ⟨j, rfl, hjm, hO, hrd, hb⟩ := hrel
            by_cases hj1 : j < mF
            · obtain ⟨c, hc⟩ : ∃ c, co F j = c := ⟨_, rfl⟩
              obtain ⟨b7, o7, ha7, hcc⟩ := hrd.out j (.int .i64 c) (by rw [List.getElem?_map, co_some (by rw [← HmF.out]; exact hj1), hc]; rfl)
              have hcb := hIF.out.co (by omega) j
              rw [hc] at hcb
              have hjn : j < k := by omega
              obtain ⟨s, hs⟩ : ∃ s, S j = s := ⟨_, rfl⟩
              have hsb := hT.out.1 j
              rw [hs] at hsb
              have c7 := hO.out.cell hjn
              have f7 := hO.out.frozen j
              have hat : addI p S F v j j = s := by unfold addI; rw [if_neg (by omega), hs]
              unfold iV at c7
              rw [hat] at c7
              have hm1 := mul_bd hcb.1 (show c ≤ 996 by omega) v0 (show v ≤ 996 by omega)
              obtain ⟨m, hm⟩ : ∃ m, c * v = m := ⟨_, rfl⟩
              rw [hm] at hm1
              have wm : IntKind.i64.wrap m = m := IntWalk.i64_in _ (by omega)
              have ws : IntKind.i64.wrap (s + m) = s + m := IntWalk.i64_in _ (by omega)
              obtain ⟨r, hr⟩ : ∃ r, (s + m) % p = r := ⟨_, rfl⟩
              have hrt : Int.tmod (s + m) p = r := by rw [Int.tmod_eq_emod_of_nonneg (by omega)]; exact hr
              have hrb := pol_bd (by omega) p2 _ hr.symm
              have wr1 : IntKind.i64.wrap r = r := IntWalk.i64_in _ (by omega)
              have st := hO.out.store j (.int .i64 r)
              have hO4 := Lib.hid (st.1.congr (f' := iV (addI p S F v (j + 1))) fun a _ => by
                unfold iV
                rw [addI_step]
                by_cases ha : a = j
                · rw [if_pos ha, if_pos ha, hs, hc, hm, hr]
                · rw [if_neg ha, if_neg ha])
              have hb4 := Lib.hid (hO.out.belowStore hb.out (Nat.le_refl _) j (.int .i64 r))
              have hrd4 : Hid (Reads (wr.setCell ⟨G, j, none⟩ (.int .i64 r)) aF (F.map (Value.int .i64))) := reads_off hrd.out hof.out
              clear st hr hs hc hat
              subst ha7
              go_wp2_with fail
              go_roundw
              case rel => exact ⟨j + 1, by go_num, by omega, hO4, hrd4, hb4⟩
              case measure => simp [intOf]; omega
            · have hjF : j = F.length := by rw [← HmF.out]; omega
              have HT2 : Hid (thrV p l (vI p l) (i + 1) (addI p S F v F.length)) := by
                have h := thr_step (by omega) hT.out HFn.out hFz.out
                rw [HV.out] at h
                exact h
              have hO4 : Hid (Own wr w.heap.size 3 G k k (iV (addI p S F v F.length))) := by rw [← hjF]; exact hO
              clear hjF
              go_wp2_with fail
              go_roundw
              case rel => exact ⟨i + 1, _, by go_num, by omega, HT2, hO4, hb⟩
              case measure => simp [intOf]; omega
    · have hin2 : i = l.length := by rw [HL.out]; omega
      have hThr : Hid (ThrIs p l (trim (mkL n S))) := by
        have h := hT.out
        rw [hin2] at h
        have h2 := thr_end (by omega) h
        rw [HL.out] at h2
        exact h2
      have hR2 : Hid (Reads wr (some ⟨G, 0, none⟩) ((mkL n S).map (Value.int .i64))) := by
        show Reads _ _ _
        rw [map_mkL]; exact hO.out.reads
      clear hin2
      go_wp2_with (go_at_call 79; refine (poly_Trim (mkL n S) n (some ⟨G, 0, none⟩) n w.heap.size _ (by omega) (mkL_length _ _) (Nat.le_refl _) (by omega) (fun h => by cases h) hR2 hb.out.size).mono ?_; rintro e w' ⟨v, rfl, hv1, hv2⟩)
      go_ret2
      exact ⟨_, v, hThr.out, hb.out.trans (Below.mono hv2 (Nat.le_refl _)), rfl, hv1⟩
end Go.Proofs.Ytgdcmebhopjfaaa
namespace Go.Proofs.Ytgdcmebhopjfaaa
open Go.RowKit

theorem polE_ok {p : Int} {f : List Int} (h : PolOk p f) : polE p f = 0 := by
  unfold polE
  rw [fldE_zero h.p1 h.p2 h.pr, if_neg (by omega), if_neg (by have := h.len; omega)]
  have ha : f.any (outF p) = false := by
    rw [List.any_eq_false]
    intro x hx
    have := h.inF x hx
    unfold outF
    simp
    omega
  rw [ha, if_neg (by simp), if_neg]
  rintro ⟨h0, h1⟩
  rcases h.trm with h2 | h2
  · omega
  · exact h2 h1
theorem ThrIs.pol {p : Int} {l : Pts} {h : List Int} (OP : PtsOk p l) (t : ThrIs p l h) : PolOk p h := ⟨OP.p1, OP.p2, OP.pr, by have := t.2.2.1; have := OP.len; omega, t.2.1, t.1⟩
theorem ints_B0 {w : World} {ao : Option Addr} {cap : Nat} {zs : List Int} (h : Reads w ao (zs.map (Value.int .i64))) : IntsB w.heap.size w ao cap zs := by
  rcases Nat.eq_zero_or_pos zs.length with h0 | hne
  · exact .inl (List.eq_nil_of_length_eq_zero h0)
  · obtain ⟨b, o, rfl, hc⟩ := h 0 _ (by rw [List.getElem?_map, List.getElem?_eq_getElem hne]; rfl)
    refine .inr ⟨b, o, rfl, World.block_lt_of_cell? w _ hc, fun j hj => ?_⟩
    obtain ⟨b2, o2, ha, hc2⟩ := h j _ (by rw [List.getElem?_map, List.getElem?_eq_getElem hj]; rfl)
    injection ha with ha
    injection ha with e1 e2
    subst e1 e2
    rw [hc2, List.getElem?_eq_getElem hj]; rfl
noncomputable def ptsV (p : Int) (l : Pts) (z : Int) : Int := lsum (xs l) (vI p l) l.length z l.length % p
set_option maxRecDepth 20000 in
set_option maxHeartbeats 1000000 in
theorem points_At_bad (p : Int) (l : Pts) (x : Int) (n : Nat) (ao : Option Addr) (cap : Nat) (w : World) (hp : (Lit.int .i64 p).wf = true) (hl : l.length = n) (h63 : n ≤ 9223372036854775807) (hc : n ≤ cap) (hR : Hid (Reads w ao (cells2 (l.map pV)))) (hb : ptsE p l ≠ 0) :
    Calls Try.prog 19 #[.int .i64 p, .slice ao n cap, .int .i64 x] w fun e w' => e = .returned (.tuple #[.int .i64 0, .int .i64 (ptsE p l)]) ∧ Below w.heap.size w w' := by
  have C1 := Lib.hid (points_Through_bad p l n ao cap w hp hl h63 hc hR hb)
  obtain ⟨c, hcc⟩ : ∃ c, ptsE p l = c := ⟨_, rfl⟩
  rw [hcc] at C1 hb ⊢
  have hc0 : (c != 0) = true := by simp [hb]
  clear hp hl hb hcc
  go_enter Try.func19, Try.ntmps19
  go_wp2_with (go_at_call 16; refine C1.out.mono ?_; rintro e w' ⟨rfl, hb1⟩)
  go_ret2
  exact ⟨rfl, hb1⟩
set_option maxRecDepth 20000 in
set_option maxHeartbeats 1000000 in
theorem points_At (p : Int) (l : Pts) (x : Int) (n : Nat) (ao : Option Addr) (cap : Nat) (w : World) (hp : (Lit.int .i64 p).wf = true) (hx : (Lit.int .i64 x).wf = true) (hl : l.length = n) (hc : n ≤ cap) (hR : Hid (Reads w ao (cells2 (l.map pV)))) (hok : ptsE p l = 0) :
    Calls Try.prog 19 #[.int .i64 p, .slice ao n cap, .int .i64 x] w fun e w' => e = .returned (.tuple #[.int .i64 (ptsV p l (x % p)), .int .i64 0]) ∧ Below w.heap.size w w' := by
  have C1 := Lib.hid (points_Through p l n ao cap w hp hl hc hR hok)
  have OP := Lib.hid (ptsOk_of hok)
  have HP := Lib.hid hp
  have HX := Lib.hid hx
  clear hp hx hl hok
  go_enter Try.func19, Try.ntmps19
  go_wp2_with (first | (go_at_call 16; refine C1.out.mono ?_; rintro e w1 ⟨h, v, hthr, hb1, rfl, hown⟩; obtain ⟨a1, k1, rfl, r1, n1, kk1, kk2⟩ := own_data hown) | (go_at_call 18; refine (poly_At p h x a1 h.length k1 _ HP.out HX.out rfl (ints_B0 r1) r1 (polE_ok (hthr.pol OP.out))).mono ?_; rintro e w2 ⟨rfl, hb2⟩))
  go_ret2
  refine ⟨?_, hb1.trans (hb2.mono hb1.size)⟩
  unfold ptsV
  rw [← hthr.2.2.2]; rfl
theorem pw_succ (X : Nat → Int) (i e k : Nat) : pw X i e (k + 1) = if k = i then pw X i e k else pw X i e k * (X i - X k) ^ e := rfl
/-- A term's number when the first k places are taken in. -/
def termA (p : Int) (l : Pts) (z : Int) (i k : Nat) : Int := ys l i * pz (xs l) i z k * pw (xs l) i (p.toNat - 2) k % p
theorem mod3 (a b c p : Int) : a % p * (b % p) % p * (c % p) % p = a * b * c % p := by rw [← Int.mul_emod a b p, ← Int.mul_emod]
theorem term_step {p : Int} {l : Pts} {z : Int} {i k : Nat} (hk : k ≠ i) {y u : Int} (hy : y = termA p l z i k) (hu : u = (xs l i - xs l k) ^ (p.toNat - 2) % p) : y * ((z - xs l k) % p) % p * u % p = termA p l z i (k + 1) := by
  unfold termA at hy ⊢
  rw [pz_succ, pw_succ, if_neg hk, if_neg hk, hy, hu, mod3]
  congr 1
  grind
theorem term_skip {p : Int} {l : Pts} {z : Int} {i k : Nat} (hk : k = i) : termA p l z i (k + 1) = termA p l z i k := by
  unfold termA
  rw [pz_succ, pw_succ, if_pos hk, if_pos hk]
noncomputable def wI (p : Int) (l : Pts) (i : Nat) : Int := ys l i * pw (xs l) i (p.toNat - 2) l.length
theorem sum_step {p : Int} {l : Pts} {z o y : Int} {i : Nat} (ho : o = lsum (xs l) (wI p l) l.length z i % p) (hy : y = termA p l z i l.length) : (o + y) % p = lsum (xs l) (wI p l) l.length z (i + 1) % p := by
  show _ = (lsum (xs l) (wI p l) l.length z i + wI p l i * pz (xs l) i z l.length) % p
  unfold termA at hy
  unfold wI at ho ⊢
  rw [ho, hy, ← Int.add_emod]
  congr 2
  grind
theorem sum_same {p : Int} {l : Pts} (OP : PtsOk p l) (z : Int) : lsum (xs l) (wI p l) l.length z l.length % p = ptsV p l z := by
  unfold ptsV
  refine lsum_congr _ _ _ _ _ _ _ fun i hi => ?_
  have h1 := OP.p1
  obtain ⟨_, _, h3, _⟩ := ivI_ok OP hi
  have h4 := term_same OP.pr (by omega) (xs l) i l.length (fun k hk hne => OP.xne hi hk hne) h3
  unfold wI vI
  rw [Int.mul_emod, h4, ← Int.mul_emod]
end Go.Proofs.Ytgdcmebhopjfaaa
namespace Go.Proofs.Ytgdcmebhopjfaaa

theorem evn_eq (z : Int) {c d : Nat → Int} : ∀ n, (∀ k, k < n → c k = d k) → evn z c n = evn z d n
  | 0, _ => rfl
  | n + 1, h => by
    show evn z c n + c n * z ^ n = evn z d n + d n * z ^ n
    rw [evn_eq z n (fun k hk => h k (by omega)), h n (by omega)]
theorem geo (x z : Int) : ∀ N : Nat, z ^ N = x ^ N + (z - x) * evn z (fun k => x ^ (N - 1 - k)) N
  | 0 => by simp [evn]
  | N + 1 => by
    have ih := geo x z N
    have e : evn z (fun k => x ^ (N + 1 - 1 - k)) (N + 1) = evn z (fun k => x ^ (N - 1 - k)) N * x + z ^ N := by
      show evn z (fun k => x ^ (N + 1 - 1 - k)) N + x ^ (N + 1 - 1 - N) * z ^ N = _
      have h1 : evn z (fun k => x ^ (N + 1 - 1 - k)) N = evn z (fun k => x ^ (N - 1 - k) * x) N := evn_eq z N fun k hk => by
        rw [← Int.pow_succ]; congr 1; omega
      rw [h1, evn_smul, show N + 1 - 1 - N = 0 by omega, Int.pow_zero, Int.one_mul]
    rw [e, Int.pow_succ, Int.pow_succ]
    generalize evn z (fun k => x ^ (N - 1 - k)) N = G at ih ⊢
    grind
/-- What is left of a polynomial when z - x is taken out. -/
def qt (x : Int) (d : Nat → Int) : Nat → Nat → Int
  | 0, _ => 0
  | N + 1, k => qt x d N k + (if k < N then d N * x ^ (N - 1 - k) else 0)
theorem qt_high (x : Int) (d : Nat → Int) : ∀ N k, N ≤ k + 1 → qt x d N k = 0
  | 0, _, _ => rfl
  | N + 1, k, h => by
    unfold qt
    rw [qt_high x d N k (by omega), if_neg (by omega)]; rfl
theorem qt_law (x z : Int) (d : Nat → Int) (M : Nat) : ∀ N, N ≤ M + 1 → evn z d N = evn x d N + (z - x) * evn z (qt x d N) M
  | 0, _ => by
    have : evn z (qt x d 0) M = 0 := by
      exact (evn_eq z (d := fun _ => 0) M (fun k _ => rfl)).trans (evn_zero z M)
    rw [this, Int.mul_zero]; rfl
  | N + 1, h => by
    have ih := qt_law x z d M N (by omega)
    show evn z d N + d N * z ^ N = evn x d N + d N * x ^ N + (z - x) * evn z (qt x d (N + 1)) M
    have e1 : evn z (qt x d (N + 1)) M = evn z (qt x d N) M + evn z (fun k => if k < N then d N * x ^ (N - 1 - k) else 0) M := by
      rw [← evn_add]
      exact evn_eq z M fun k _ => rfl
    have e2 : evn z (fun k => if k < N then d N * x ^ (N - 1 - k) else 0) M = evn z (fun k => x ^ (N - 1 - k)) N * d N := by
      rw [← evn_smul]
      obtain ⟨m, rfl⟩ : ∃ m, M = N + m := ⟨M - N, by omega⟩
      rw [evn_more z _ N (fun k hk => by rw [if_neg (by omega)]) m]
      exact evn_eq z N fun k hk => by rw [if_pos hk, Int.mul_comm]
    rw [e1, e2, ih, geo x z N]
    generalize evn z (fun k => x ^ (N - 1 - k)) N = G
    generalize evn z (qt x d N) M = H
    grind
theorem roots {p : Int} (hp : IsPr p.toNat) (h1 : 1 < p) (x : Nat → Int) : ∀ (N : Nat) (d : Nat → Int), (∀ i j, i < N → j < N → i ≠ j → ¬ p ∣ x i - x j) → (∀ i, i < N → p ∣ evn (x i) d N) → ∀ k, k < N → p ∣ d k
  | 0, _, _, _, k, hk => by omega
  | N + 1, d, hne, hr, k, hk => by
    have hq : ∀ k, k < N → p ∣ qt (x N) d (N + 1) k := by
      refine roots hp h1 x N (qt (x N) d (N + 1)) (fun i j hi hj h => hne i j (by omega) (by omega) h) fun i hi => ?_
      have e := qt_law (x N) (x i) d N (N + 1) (by omega)
      have hd : p ∣ (x i - x N) * evn (x i) (qt (x N) d (N + 1)) N := by
        have h2 := Int.dvd_sub (hr i (by omega)) (hr N (by omega))
        rw [e] at h2
        have h5 : ∀ a b : Int, a + b - a = b := fun a b => by omega
        rwa [h5] at h2
      rcases prime_dvd hp h1 hd with h3 | h3
      · exact absurd h3 (hne i N (by omega) (by omega) (by omega))
      · exact h3
    have htop : p ∣ d N := by
      rcases Nat.eq_zero_or_pos N with h0 | h0
      · subst h0
        have := hr 0 (by omega)
        simpa [evn] using this
      · have h2 := hq (N - 1) (by omega)
        unfold qt at h2
        rw [qt_high (x N) d N (N - 1) (by omega), if_pos (by omega), show N - 1 - (N - 1) = 0 by omega, Int.pow_zero, Int.mul_one, Int.zero_add] at h2
        exact h2
    by_cases he : k = N
    · subst he; exact htop
    · refine roots hp h1 x N d (fun i j hi hj h => hne i j (by omega) (by omega) h) (fun i hi => ?_) k (by omega)
      have h2 := hr i (by omega)
      have h3 : evn (x i) d (N + 1) = evn (x i) d N + d N * x i ^ N := rfl
      rw [h3] at h2
      have h4 := Int.dvd_sub h2 (Int.dvd_trans htop (Int.dvd_mul_right (d N) (x i ^ N)))
      rwa [Int.add_sub_cancel] at h4
/-- A list of points all of which lie on f. -/
def OnF (p : Int) (f : List Int) (l : Pts) : Prop := ∀ k, k < l.length → ys l k = evp (xs l k) f % p
theorem thr_value' {p : Int} {l : Pts} {h : List Int} (OP : PtsOk p l) (t : ThrIs p l h) {k : Nat} (hk : k < l.length) : evp (xs l k) h % p = ys l k := by
  have h1 := OP.p1
  have hb := OP.xb hk
  rw [t.2.2.2, lsum_at _ _ _ hk, if_pos hk]
  obtain ⟨_, _, h3, _⟩ := ivI_ok OP hk
  unfold vI
  rw [Int.mul_assoc, Int.mul_emod, h3, Int.mul_one, Int.emod_emod_of_dvd _ (Int.dvd_refl p)]
  exact Int.emod_eq_of_lt hb.2.2.1 hb.2.2.2
theorem thr_uniq {p : Int} {l : Pts} {h f : List Int} (OP : PtsOk p l) (t : ThrIs p l h) (hf : InF p f) (hl : f.length ≤ l.length) (hon : OnF p f l) : h = trim f := by
  have p1 := OP.p1
  refine trm_ext t.1 (trm_trim f) fun k => ?_
  rw [co_trim]
  by_cases hk : k < l.length
  · have hd := roots OP.pr (by omega) (xs l) l.length (fun k => co h k + co f k * (-1)) (fun i j hi hj hij => OP.xne hi hj (fun e => hij e.symm)) (fun i hi => ?_) k hk
    · have h1 := t.2.1.co (by omega) k
      have h2 := hf.co (by omega) k
      rcases Int.lt_trichotomy (co h k) (co f k) with h3 | h3 | h3
      · exact absurd (by have := Int.dvd_neg.2 hd; rwa [show -(co h k + co f k * (-1)) = co f k - co h k by omega] at this) (diff_ne (by omega) h2.1 h2.2 h1.1 h1.2 (by omega))
      · exact h3
      · exact absurd (by rwa [show co h k + co f k * (-1) = co h k - co f k by omega] at hd) (diff_ne (by omega) h1.1 h1.2 h2.1 h2.2 (by omega))
    · rw [evn_add, evn_smul, evp_more _ h t.2.2.1, evp_more _ f hl]
      have h1 := thr_value' OP t hi
      have h2 := hon i hi
      rw [h2] at h1
      have h3 := Int.emod_eq_emod_iff_emod_sub_eq_zero.1 h1
      rw [show evp (xs l i) h + evp (xs l i) f * -1 = evp (xs l i) h - evp (xs l i) f by omega]
      exact Int.dvd_of_emod_eq_zero h3
  · rw [co_out (f := h) (by have := t.2.2.1; omega), co_out (f := f) (by omega)]
end Go.Proofs.Ytgdcmebhopjfaaa
namespace Go.Proofs.Ytgdcmebhopjfaaa
open Go.RowKit

noncomputable def joinE (p : Int) (l : Pts) : Int := if ptsE p l ≠ 0 then ptsE p l else if l.length = 0 then 9 else if l.any (fun y => y.1 == 0) = true then 1 else 0
theorem join_zero (y : Int × Int) (w : World) :
    Calls Try.prog 85 #[pA y] w fun e w' => e = .returned (.bool (y.1 == 0)) ∧ Below w.heap.size w w' := by
  have hb := Lib.hid ((Below.refl w.heap.size w).alloc (Nat.le_refl _) (.cells #[.int .i64 y.1, .int .i64 y.2] 114))
  go_enter Try.func85, Try.ntmps85
  go_wp2_with fail
  go_ret
  exact ⟨rfl, hb.out⟩
def JoinRet (p : Int) (l : Pts) (w : World) (e : Ending) (w' : World) : Prop :=
  Below w.heap.size w w' ∧ ((joinE p l = 0 ∧ e = .returned (.tuple #[.int .i64 (ptsV p l 0), .int .i64 0])) ∨ (joinE p l ≠ 0 ∧ e = .returned (.tuple #[.int .i64 0, .int .i64 (joinE p l)])))
set_option maxRecDepth 20000 in
set_option maxHeartbeats 1000000 in
theorem secret_Join (p : Int) (l : Pts) (n : Nat) (ao : Option Addr) (cap : Nat) (w : World) (hp : (Lit.int .i64 p).wf = true) (hl : l.length = n) (h63 : n ≤ 9223372036854775807) (hc : n ≤ cap) (hR : Hid (Reads w ao (cells2 (l.map pV)))) :
    Calls Try.prog 17 #[.int .i64 p, .slice ao n cap] w (JoinRet p l w) := by
  have HL := Lib.hid hl
  have CK := Lib.hid (points_Check p l n ao cap w hp hl h63 hc hR)
  by_cases hok : ptsE p l = 0
  · rw [hok] at CK
    by_cases h0 : n = 0
    · have hE : Hid (joinE p l = 9) := by show _ = _; unfold joinE; rw [if_neg (by omega), if_pos (by omega)]
      have d1 : ((n : Int) == 0) = true := by simp [h0]
      clear hok h0 hl hp
      go_enter Try.func17, Try.ntmps17
      go_wp2_with (go_at_call 81; refine CK.out.mono ?_; rintro e w1 ⟨rfl, hb1⟩)
      go_ret2
      exact ⟨hb1, .inr ⟨by rw [hE.out]; omega, by rw [hE.out]; rfl⟩⟩
    · have d1 : ((n : Int) == 0) = false := by simp [h0]
      have CF := Lib.hid (fun w' (hb : Below w.heap.size w w') => containsFunc_pt 85 (fun x W => by go_simp) (fun y => y.1 == 0) l n ao cap w' hl h63 (hR.out.below hb) (fun y _ W _ => join_zero y W))
      cases ha : l.any (fun y => y.1 == 0) with
      | true =>
        have hE : Hid (joinE p l = 1) := by show _ = _; unfold joinE; rw [if_neg (by omega), if_neg (by omega), if_pos ha]
        rw [ha] at CF
        clear hok h0 hl hp ha
        go_enter Try.func17, Try.ntmps17
        go_wp2_with (first | (go_at_call 81; refine CK.out.mono ?_; rintro e w1 ⟨rfl, hb1⟩) | (go_at_call 84; refine (CF.out _ hb1).mono ?_; rintro e w2 ⟨rfl, s2⟩; have hb2 := hb1.trans (s2.mono hb1.size)))
        go_ret2
        exact ⟨hb2, .inr ⟨by rw [hE.out]; omega, by rw [hE.out]; rfl⟩⟩
      | false =>
        have hE : Hid (joinE p l = 0) := by show _ = _; unfold joinE; rw [if_neg (by omega), if_neg (by omega), if_neg (by rw [ha]; simp)]
        rw [ha] at CF
        have hx0 : (Lit.int .i64 0).wf = true := by decide
        have CA : Hid (∀ w', Below w.heap.size w w' → Calls Try.prog 19 #[.int .i64 p, .slice ao n cap, .int .i64 0] w' fun e w'' => e = .returned (.tuple #[.int .i64 (ptsV p l 0), .int .i64 0]) ∧ Below w'.heap.size w' w'') := fun w' hb => by
          have h := points_At p l 0 n ao cap w' hp hx0 hl hc (hR.out.below hb) hok
          rwa [Int.zero_emod] at h
        clear hok h0 hl hp ha
        go_enter Try.func17, Try.ntmps17
        go_wp2_with (first | (go_at_call 81; refine CK.out.mono ?_; rintro e w1 ⟨rfl, hb1⟩) | (go_at_call 84; refine (CF.out _ hb1).mono ?_; rintro e w2 ⟨rfl, s2⟩; have hb2 := hb1.trans (s2.mono hb1.size)) | (go_at_call 19; refine (CA.out _ hb2).mono ?_; rintro e w3 ⟨rfl, s3⟩; have hb3 := hb2.trans (s3.mono hb2.size)))
        go_ret2
        exact ⟨hb3, .inl ⟨hE.out, rfl⟩⟩
  · have hE : Hid (joinE p l = ptsE p l) := by show _ = _; unfold joinE; rw [if_pos hok]
    obtain ⟨c, hcc⟩ : ∃ c, ptsE p l = c := ⟨_, rfl⟩
    rw [hcc] at CK hE hok
    have hz2 : (c != 0) = true := by simp [hok]
    have HK := Lib.hid hok
    clear hok hl hp hcc
    go_enter Try.func17, Try.ntmps17
    go_wp2_with (go_at_call 81; refine CK.out.mono ?_; rintro e w1 ⟨rfl, hb1⟩)
    go_ret2
    exact ⟨hb1, .inr ⟨by rw [hE.out]; exact HK.out, by rw [hE.out]; rfl⟩⟩
noncomputable def dealE (p s : Int) (tape : List Int) (n : Int) : Int :=
  if fldE p = 1 then 1 else if 11 < tape.length then 2 else if n < 0 ∨ 12 < n ∨ p ≤ n then 1 else if (s :: tape).any (outF p) = true then 1 else 0
/-- The point that is dealt to place i. -/
def dealP (p : Int) (f : List Int) (i : Nat) : Int × Int := (((i + 1 : Nat) : Int), evp ((i + 1 : Nat) : Int) f % p)
def dealL (p : Int) (f : List Int) (n : Nat) : Pts := (List.range n).map (dealP p f)
theorem secret_out (x p : Int) (b : Nat) (w : World) (hc : w.cell? ⟨b, 0, none⟩ = some (.int .i64 p)) :
    Calls Try.prog 78 #[.int .i64 x, .pointer (some ⟨b, 0, none⟩)] w fun e w' => e = .returned (.bool (outF p x)) ∧ w' = w := by
  go_enter Try.func78, Try.ntmps78
  unfold outF
  cases h : decide (x < 0) with
  | true =>
    go_wp2_with fail
    go_ret
    exact ⟨by simp, rfl⟩
  | false =>
    go_wp2_with fail
    go_ret
    exact ⟨by simp, rfl⟩
theorem evp_trim (z : Int) (f : List Int) : evp z (trim f) = evp z f := by
  have h1 : (trim f).length ≤ f.length := by rw [length_trim]; exact tlen_le f
  rw [← evp_more z (trim f) h1]
  unfold evp
  congr 1
  funext k
  exact co_trim f k
theorem trim_ok {p : Int} {f : List Int} (h1 : 2 ≤ p) (h2 : p ≤ 997) (h3 : IsPr p.toNat) (hl : f.length ≤ 40) (hi : InF p f) : polE p (trim f) = 0 :=
  polE_ok ⟨h1, h2, h3, by rw [length_trim]; exact Nat.le_trans (tlen_le f) hl, InF.of_co fun k => by rw [co_trim]; exact hi.co (by omega) k, trm_trim f⟩
theorem inF_of_any {p : Int} {f : List Int} (h : f.any (outF p) = false) : InF p f := by
  intro x hx
  rw [List.any_eq_false] at h
  have := h x hx
  unfold outF at this
  simp at this
  omega
theorem cells2_set : ∀ (L : List (Value × Value)) (i : Nat) (a b : Value), cells2 (L.set i (a, b)) = ((cells2 L).set (i * 2) a).set (i * 2 + 1) b
  | [], _, _, _ => by simp [cells2]
  | z :: L, 0, a, b => rfl
  | z :: L, i + 1, a, b => by
    have ih := cells2_set L i a b
    have e1 : (i + 1) * 2 = i * 2 + 1 + 1 := by omega
    rw [e1]
    show z.1 :: z.2 :: cells2 (L.set i (a, b)) = (z.1 :: z.2 :: ((cells2 L).set (i * 2) a)).set (i * 2 + 1 + 1 + 1) b
    rw [ih]; rfl
def dealRow (p : Int) (f : List Int) (n i : Nat) : List (Value × Value) := (List.range n).map fun k => if k < i then pV (dealP p f k) else (.int .i64 0, .int .i64 0)
theorem dealRow_length (p : Int) (f : List Int) (n i : Nat) : (dealRow p f n i).length = n := by simp [dealRow]
theorem dealRow_step (p : Int) (f : List Int) (n i : Nat) : (dealRow p f n i).set i (pV (dealP p f i)) = dealRow p f n (i + 1) := by
  apply List.ext_getElem?
  intro j
  rw [List.getElem?_set, dealRow_length]
  unfold dealRow
  by_cases hj : j < n
  · by_cases he : i = j
    · subst he; simp [hj]
    · rw [if_neg he]
      simp only [List.getElem?_map, List.getElem?_range hj, Option.map_some]
      by_cases h2 : j < i
      · rw [if_pos h2, if_pos (by omega)]
      · rw [if_neg h2, if_neg (by omega)]
  · rw [List.getElem?_eq_none (by simp; omega), List.getElem?_eq_none (by simp; omega)]
    split
    · rw [if_neg (by omega)]
    · rfl
theorem dealRow_full (p : Int) (f : List Int) (n : Nat) : dealRow p f n n = (dealL p f n).map pV := by
  unfold dealRow dealL
  rw [List.map_map]
  exact List.map_congr_left fun k hk => by rw [if_pos (List.mem_range.1 hk)]; rfl
theorem deal_old (p : Int) (f : List Int) {n i : Nat} (h : i < n) : (cells2 (dealRow p f n i))[i * 2]? = some (.int .i64 0) ∧ (cells2 (dealRow p f n i))[i * 2 + 1]? = some (.int .i64 0) :=
  cells2_get (dealRow p f n i) i (.int .i64 0, .int .i64 0) (by unfold dealRow; simp [h])
theorem ptRow : ElemRow Try.prog 114 (.agg #[.int .i64 0, .int .i64 0]) 2 16 := elemRow_of (by kernel_rfl) rfl (by omega)
theorem made_row (p : Int) (f : List Int) (n : Nat) : (madeCells (Value.agg #[.int .i64 0, .int .i64 0]).cells (n * 2)).toList = cells2 (dealRow p f n 0) := by
  have h0 : ∀ j, j < n * 2 → (cells2 (dealRow p f n 0))[j]? = some (.int .i64 0) := by
    intro j hj
    have hk : j / 2 < n := by omega
    obtain ⟨h1, h2⟩ := cells2_get (dealRow p f n 0) (j / 2) (.int .i64 0, .int .i64 0) (by unfold dealRow; simp [hk])
    rcases (by omega : j = j / 2 * 2 ∨ j = j / 2 * 2 + 1) with e | e
    · rw [← e] at h1; exact h1
    · rw [← e] at h2; exact h2
  apply List.ext_getElem?
  intro j
  by_cases hj : j < n * 2
  · rw [h0 j hj]
    unfold madeCells
    rw [Array.getElem?_toList]
    have hm : j % 2 = 0 ∨ j % 2 = 1 := by omega
    have hs : (Value.agg #[.int .i64 0, .int .i64 0]).cells = #[.int .i64 0, .int .i64 0] := rfl
    rw [hs]
    rcases hm with e | e
    · simp [hj, e]
    · simp [hj, e]
  · rw [List.getElem?_eq_none (by rw [Array.length_toList, size_madeCells]; omega), List.getElem?_eq_none (by rw [cells2_length, dealRow_length]; omega)]
set_option maxRecDepth 100000 in
set_option maxHeartbeats 2000000 in
theorem secret_Deal_bad (p s : Int) (tape : List Int) (n : Int) (nt : Nat) (ao : Option Addr) (cap : Nat) (w : World) (hp : (Lit.int .i64 p).wf = true) (hl : tape.length = nt) (h63 : nt * 8 ≤ 140737488351232) (hnone : ao = none → nt = 0 ∧ cap = 0) (hR : Hid (Reads w ao (tape.map (Value.int .i64)))) (hb : dealE p s tape n ≠ 0) :
    Calls Try.prog 14 #[.int .i64 p, .int .i64 s, .slice ao nt cap, .int .i64 n] w fun e w' => e = .returned (.tuple #[.slice none 0 0, .int .i64 (dealE p s tape n)]) ∧ Below w.heap.size w w' := by
  have HP := Lib.hid hp
  have HN := Lib.hid hnone
  have HL1 : Hid ((tape.map (Value.int .i64)).length = nt * 1) := by show _ = _; rw [List.length_map]; omega
  have HI1 : Hid (∀ u ∈ tape.map (Value.int .i64), u.oneCell' = true) := ints_one .i64 tape
  have CFd := Lib.hid (fun w' => poly_Field p w' hp)
  obtain ⟨W0, hW0⟩ : ∃ W0, w.alloc (.cells #[.int .i64 p] 3) = W0 := ⟨_, rfl⟩
  have hsz0 : W0.heap.size = w.heap.size + 1 := by rw [← hW0, World.size_alloc]
  have hb0 : Below w.heap.size w W0 := by rw [← hW0]; exact (Below.refl _ w).alloc (Nat.le_refl _) _
  have hbox0 : W0.heap[w.heap.size]? = some (.cells #[.int .i64 p] 3 (0, 0)) := by rw [← hW0]; exact heap_alloc_new w _
  have hown1 : Hid ((W0.alloc (.cells #[.int .i64 s] 3)).ownsRow (w.heap.size + 1) 3 1 (.slice (some ⟨w.heap.size + 1, 0, none⟩) 1 1) 1 [.int .i64 s]) := by
    have h := own_lit W0 (w.heap.size + 1) 3 [.int .i64 s] (by omega) (by unfold maxLen; simp)
    rw [hsz0] at h
    exact h
  have hb01 : Below W0.heap.size W0 (W0.alloc (.cells #[.int .i64 s] 3)) := (Below.refl _ W0).alloc (Nat.le_refl _) _
  have hR1 : Hid (Reads (W0.alloc (.cells #[.int .i64 s] 3)) ao (tape.map (Value.int .i64))) := (hR.out.below hb0).below hb01
  have hbox1 : Hid ((W0.alloc (.cells #[.int .i64 s] 3)).heap[w.heap.size]? = some (.cells #[.int .i64 p] 3 (0, 0))) := heap_alloc_old _ _ hbox0
  have HB1 : Hid (Below w.heap.size w (W0.alloc (.cells #[.int .i64 s] 3))) := hb0.trans (hb01.mono hb0.size)
  have k0 : W0.cell? ⟨w.heap.size, 0, none⟩ = some (.int .i64 p) := heap_cell hbox0 0
  have hsz1 : w.heap.size + 1 ≤ (W0.alloc (.cells #[.int .i64 s] 3)).heap.size := by rw [World.size_alloc]; omega
  rw [← hW0] at hown1 hR1 hbox1 HB1 k0 hsz1
  clear hb0 hbox0 hb01 hW0 hsz0
  rcases fldE_cases p with ⟨hf, p1, p2, p3⟩ | hf
  · have HF := Lib.hid hf
    by_cases h12 : 11 < nt
    · have hE : Hid (dealE p s tape n = 2) := by show _ = _; unfold dealE; rw [hf, if_neg (by omega), if_pos (by rw [hl]; exact h12)]
      have d1 : decide ((12 : Int) ≤ nt) = true := by simp; omega
      clear hf hb hp hl hnone p3
      go_enter Try.func14, Try.ntmps14
      go_wp2_with (first | (go_at_call 76; refine (CFd.out _).mono ?_; rw [HF.out]; rintro e w' ⟨rfl, rfl⟩) | (at_builtin; go_must (refine app_all rfl (.tmp 22) (.tmp 23) _ rfl (w.heap.size + 1) 3 _ 1 8 Try.underlying22 intRow _ 1 [.int .i64 s] (by rfl) hown1.out ao nt cap (tape.map (Value.int .i64)) (by rfl) HN.out HL1.out hR1.out HI1.out (by unfold maxLen; omega) (by omega) hsz1 ?_); intro v2 w2 hown2 hgr2 hb2; have hbox2 := (hb2.block _ (Nat.lt_succ_self _)).trans hbox1.out; have k2 : w2.cell? ⟨w.heap.size, 0, none⟩ = some (.int .i64 p) := heap_cell hbox2 0; have HB2 := Lib.hid (HB1.out.trans (hb2.mono (Nat.le_succ _)))))
      go_ret2
      exact ⟨by rw [hE.out]; rfl, HB2.out⟩
    · have d1 : decide ((12 : Int) ≤ nt) = false := by simp; omega
      by_cases hn : n < 0 ∨ 12 < n ∨ p ≤ n
      · have hE : Hid (dealE p s tape n = 1) := by show _ = _; unfold dealE; rw [hf, if_neg (by omega), if_neg (by rw [hl]; exact h12), if_pos hn]
        have hs : decide (n < 0) = true ∨ (decide (n < 0) = false ∧ decide (12 < n) = true) ∨ (decide (n < 0) = false ∧ decide (12 < n) = false ∧ decide (p ≤ n) = true) := by
          simp only [decide_eq_true_eq, decide_eq_false_iff_not]
          omega
        clear hf hb hp hl hnone p3 hn
        rcases hs with e1 | ⟨e1, e2⟩ | ⟨e1, e2, e3⟩
        all_goals
          go_enter Try.func14, Try.ntmps14
          go_wp2_with (first | (go_at_call 76; refine (CFd.out _).mono ?_; rw [HF.out]; rintro e w' ⟨rfl, rfl⟩) | (at_builtin; go_must (refine app_all rfl (.tmp 22) (.tmp 23) _ rfl (w.heap.size + 1) 3 _ 1 8 Try.underlying22 intRow _ 1 [.int .i64 s] (by rfl) hown1.out ao nt cap (tape.map (Value.int .i64)) (by rfl) HN.out HL1.out hR1.out HI1.out (by unfold maxLen; omega) (by omega) hsz1 ?_); intro v2 w2 hown2 hgr2 hb2; have hbox2 := (hb2.block _ (Nat.lt_succ_self _)).trans hbox1.out; have k2 : w2.cell? ⟨w.heap.size, 0, none⟩ = some (.int .i64 p) := heap_cell hbox2 0; have HB2 := Lib.hid (HB1.out.trans (hb2.mono (Nat.le_succ _)))))
          go_ret2
          exact ⟨by rw [hE.out]; rfl, HB2.out⟩
      · have e1 : decide (n < 0) = false := by simp; omega
        have e2 : decide (12 < n) = false := by simp; omega
        have e3 : decide (p ≤ n) = false := by simp; omega
        have ha : (s :: tape).any (outF p) = true := by
          unfold dealE at hb
          rw [hf, if_neg (by omega), if_neg (by rw [hl]; exact h12), if_neg hn] at hb
          by_cases h : (s :: tape).any (outF p) = true
          · exact h
          · rw [if_neg h] at hb; exact absurd rfl hb
        have hE : Hid (dealE p s tape n = 1) := by show _ = _; unfold dealE; rw [hf, if_neg (by omega), if_neg (by rw [hl]; exact h12), if_neg hn, if_pos ha]
        have HA := Lib.hid ha
        have HLc : Hid ((s :: tape).length = 1 + nt) := by show _ = _; rw [List.length_cons, hl]; omega
        clear hf hb hp hl hnone p3 hn ha
        go_enter Try.func14, Try.ntmps14
        go_wp2_with (first | (go_at_call 76; refine (CFd.out _).mono ?_; rw [HF.out]; rintro e w' ⟨rfl, rfl⟩) | (at_builtin; go_must (refine app_all rfl (.tmp 22) (.tmp 23) _ rfl (w.heap.size + 1) 3 _ 1 8 Try.underlying22 intRow _ 1 [.int .i64 s] (by rfl) hown1.out ao nt cap (tape.map (Value.int .i64)) (by rfl) HN.out HL1.out hR1.out HI1.out (by unfold maxLen; omega) (by omega) hsz1 ?_); intro v2 w2 hown2 hgr2 hb2; have hbox2 := (hb2.block _ (Nat.lt_succ_self _)).trans hbox1.out; have k2 : w2.cell? ⟨w.heap.size, 0, none⟩ = some (.int .i64 p) := heap_cell hbox2 0; have HB2 := Lib.hid (HB1.out.trans (hb2.mono (Nat.le_succ _))); obtain ⟨a2, c2, rfl, r2, n2, q21, q22⟩ := own_data hown2) | (go_at_call 77; have X := containsFunc_cap 78 (.pointer (some ⟨w.heap.size, 0, none⟩)) (fun x W => by go_simp) (outF p) (s :: tape) a2 c2 w2 (by rw [HLc.out]; omega) r2 (fun x _ m => (secret_out x p w.heap.size (w2.drewN m) (show World.cell? _ _ = _ from k2)).mono (by rintro e w' ⟨rfl, rfl⟩; exact ⟨rfl, 0, rfl⟩)); rw [HA.out, HLc.out] at X; refine X.mono ?_; rintro e w' ⟨rfl, m, rfl⟩))
        go_ret2
        exact ⟨by rw [hE.out]; rfl, below_drewN HB2.out m⟩
  · have HF := Lib.hid hf
    have hE : Hid (dealE p s tape n = 1) := by show _ = _; unfold dealE; rw [if_pos hf]
    have hb0 := Lib.hid ((Below.refl w.heap.size w).alloc (Nat.le_refl _) (.cells #[.int .i64 p] 3))
    clear hf hb hp hl hnone
    go_enter Try.func14, Try.ntmps14
    go_wp2_with (go_at_call 76; refine (CFd.out _).mono ?_; rw [HF.out]; rintro e w' ⟨rfl, rfl⟩)
    go_ret2
    exact ⟨by rw [hE.out]; rfl, hb0.out⟩
/-- The points that are dealt. -/
def DealPost (p : Int) (f : List Int) (n : Nat) (w : World) (e : Ending) (w' : World) : Prop :=
  ∃ G cap, e = .returned (.tuple #[.slice (some ⟨G, 0, none⟩) n cap, .int .i64 0]) ∧ n ≤ cap ∧ cap ≤ 9223372036854775807 ∧ Reads w' (some ⟨G, 0, none⟩) (cells2 ((dealL p f n).map pV)) ∧ Below w.heap.size w w'
set_option maxRecDepth 100000 in
set_option maxHeartbeats 2000000 in
theorem secret_Deal (p s : Int) (tape : List Int) (n : Int) (nt : Nat) (ao : Option Addr) (cap : Nat) (w : World) (hp : (Lit.int .i64 p).wf = true) (hl : tape.length = nt) (h63 : nt * 8 ≤ 140737488351232) (hnone : ao = none → nt = 0 ∧ cap = 0) (hR : Hid (Reads w ao (tape.map (Value.int .i64)))) (hok : dealE p s tape n = 0) :
    Calls Try.prog 14 #[.int .i64 p, .int .i64 s, .slice ao nt cap, .int .i64 n] w (DealPost p (s :: tape) n.toNat w) := by
  have HP := Lib.hid hp
  have HN := Lib.hid hnone
  have HL1 : Hid ((tape.map (Value.int .i64)).length = nt * 1) := by show _ = _; rw [List.length_map]; omega
  have HI1 : Hid (∀ u ∈ tape.map (Value.int .i64), u.oneCell' = true) := ints_one .i64 tape
  have CFd := Lib.hid (fun w' => poly_Field p w' hp)
  obtain ⟨W0, hW0⟩ : ∃ W0, w.alloc (.cells #[.int .i64 p] 3) = W0 := ⟨_, rfl⟩
  have hsz0 : W0.heap.size = w.heap.size + 1 := by rw [← hW0, World.size_alloc]
  have hb0 : Below w.heap.size w W0 := by rw [← hW0]; exact (Below.refl _ w).alloc (Nat.le_refl _) _
  have hbox0 : W0.heap[w.heap.size]? = some (.cells #[.int .i64 p] 3 (0, 0)) := by rw [← hW0]; exact heap_alloc_new w _
  have hown1 : Hid ((W0.alloc (.cells #[.int .i64 s] 3)).ownsRow (w.heap.size + 1) 3 1 (.slice (some ⟨w.heap.size + 1, 0, none⟩) 1 1) 1 [.int .i64 s]) := by
    have h := own_lit W0 (w.heap.size + 1) 3 [.int .i64 s] (by omega) (by unfold maxLen; simp)
    rw [hsz0] at h
    exact h
  have hb01 : Below W0.heap.size W0 (W0.alloc (.cells #[.int .i64 s] 3)) := (Below.refl _ W0).alloc (Nat.le_refl _) _
  have hR1 : Hid (Reads (W0.alloc (.cells #[.int .i64 s] 3)) ao (tape.map (Value.int .i64))) := (hR.out.below hb0).below hb01
  have hbox1 : Hid ((W0.alloc (.cells #[.int .i64 s] 3)).heap[w.heap.size]? = some (.cells #[.int .i64 p] 3 (0, 0))) := heap_alloc_old _ _ hbox0
  have HB1 : Hid (Below w.heap.size w (W0.alloc (.cells #[.int .i64 s] 3))) := hb0.trans (hb01.mono hb0.size)
  have k0 : W0.cell? ⟨w.heap.size, 0, none⟩ = some (.int .i64 p) := heap_cell hbox0 0
  have hsz1 : w.heap.size + 1 ≤ (W0.alloc (.cells #[.int .i64 s] 3)).heap.size := by rw [World.size_alloc]; omega
  rw [← hW0] at hown1 hR1 hbox1 HB1 k0 hsz1
  clear hb0 hbox0 hb01 hW0 hsz0
  rcases fldE_cases p with ⟨hf, p1, p2, p3⟩ | hf
  · have HF := Lib.hid hf
    unfold dealE at hok
    rw [hf, if_neg (by omega)] at hok
    split at hok
    · omega
    · rename_i h12
      split at hok
      · omega
      · rename_i hn
        split at hok
        · omega
        · rename_i ha
          have ha' : (s :: tape).any (outF p) = false := by simpa using ha
          have h12' : nt ≤ 11 := by omega
          obtain ⟨N, rfl⟩ : ∃ N : Nat, n = N := ⟨n.toNat, by omega⟩
          rw [Int.toNat_natCast]
          have d1 : decide ((12 : Int) ≤ nt) = false := by simp; omega
          have e1 : decide ((N : Int) < 0) = false := by simp
          have e2 : decide ((12 : Int) < N) = false := by simp; omega
          have e3 : decide (p ≤ (N : Int)) = false := by simp; omega
          have hN12 : N ≤ 12 := by omega
          have hNp : (N : Int) < p := by omega
          have HA := Lib.hid ha'
          have HLc : Hid ((s :: tape).length = 1 + nt) := by show _ = _; rw [List.length_cons, hl]; omega
          have hin := inF_of_any ha'
          have HIN := Lib.hid hin
          have HT := Lib.hid (trim_ok p1 p2 p3 (f := s :: tape) (by rw [List.length_cons]; omega) hin)
          clear hf hp hl hnone p3 hn ha ha' h12 hok hin
          go_enter Try.func14, Try.ntmps14
          go_wp2_with (first | (go_at_call 76; refine (CFd.out _).mono ?_; rw [HF.out]; rintro e w' ⟨rfl, rfl⟩) | (at_builtin; go_must (refine app_all rfl (.tmp 22) (.tmp 23) _ rfl (w.heap.size + 1) 3 _ 1 8 Try.underlying22 intRow _ 1 [.int .i64 s] (by rfl) hown1.out ao nt cap (tape.map (Value.int .i64)) (by rfl) HN.out HL1.out hR1.out HI1.out (by unfold maxLen; omega) (by omega) hsz1 ?_); intro v2 w2 hown2 hgr2 hb2; have hbox2 := (hb2.block _ (Nat.lt_succ_self _)).trans hbox1.out; have k2 : w2.cell? ⟨w.heap.size, 0, none⟩ = some (.int .i64 p) := heap_cell hbox2 0; have HB2 := Lib.hid (HB1.out.trans (hb2.mono (Nat.le_succ _))); obtain ⟨a2, c2, rfl, r2, n2, q21, q22⟩ := own_data hown2) | (go_at_call 77; have X := containsFunc_cap 78 (.pointer (some ⟨w.heap.size, 0, none⟩)) (fun x W => by go_simp) (outF p) (s :: tape) a2 c2 w2 (by rw [HLc.out]; omega) r2 (fun x _ m => (secret_out x p w.heap.size (w2.drewN m) (show World.cell? _ _ = _ from k2)).mono (by rintro e w' ⟨rfl, rfl⟩; exact ⟨rfl, 0, rfl⟩)); rw [HA.out, HLc.out] at X; refine X.mono ?_; rintro e w' ⟨rfl, m, rfl⟩) | (go_at_call 79; refine (poly_Trim (s :: tape) (1 + nt) a2 c2 (w2.drewN m).heap.size _ (by omega) HLc.out q21 q22 n2 (r2.drew m) (Nat.le_refl _)).mono ?_; rintro e w3 ⟨v3, rfl, o3, hb3⟩; obtain ⟨a3, c3, rfl, r3, n3, q31, q32⟩ := own_data o3) | (at_make; refine make_len rfl _ _ 25 rfl w.heap.size 114 _ 2 16 Try.underlying25 ptRow _ _ _ _ N (by rfl) (by rfl) rfl rfl (by omega) (by unfold maxLen; omega) (by have h1 := HB2.out.size; have h2 := hb3.size; exact Nat.le_trans h1 h2) ?_; intro w4 hown4 hg4))
          have hGe : w.heap.size < w3.heap.size := by
            have h1 := (Array.getElem?_eq_some_iff.1 hbox2).1
            have h2 := hb3.size
            exact Nat.lt_of_lt_of_le h1 h2
          have hbx3 : w3.heap[w.heap.size]? = some (.cells #[.int .i64 p] 3 (0, 0)) := (hb3.block _ (Array.getElem?_eq_some_iff.1 hbox2).1).trans hbox2
          have hb34 : Below w3.heap.size w3 w4 := below_of_grown hg4 (Nat.le_refl _) (by intro k hk; cases hk)
          have HBX : Hid (w4.heap[w.heap.size]? = some (.cells #[.int .i64 p] 3 (0, 0))) := (hb34.block _ hGe).trans hbx3
          have HRF := Lib.hid (r3.below hb34)
          have HBl : Hid (Below w.heap.size w w4) := (below_drewN HB2.out m).trans ((hb3.trans (hb34.mono hb3.size)).mono HB2.out.size)
          have HOff : Hid (Off w3.heap.size a3) := fun ad had => by
            subst had
            have := (o3.lt ad.block rfl).2
            omega
          have HOW : Hid (w4.ownsRow w.heap.size 114 2 (.slice (some ⟨w3.heap.size, 0, none⟩) N N) N (cells2 (dealRow p (s :: tape) N 0))) := by
            show World.ownsRow _ _ _ _ _ _ _
            rw [← made_row p (s :: tape) N]; exact hown4
          obtain ⟨G, hG⟩ : ∃ G, w3.heap.size = G := ⟨_, rfl⟩
          rw [hG] at HOff HOW hGe ⊢
          obtain ⟨mF, hmF⟩ : ∃ m, (trim (s :: tape)).length = m := ⟨_, rfl⟩
          rw [hmF]
          have HMF := Lib.hid hmF
          clear hown1 hR1 hbox1 HB1 k0 hsz1 hgr2 hb2 hbox2 k2 hown2 r2 n2 q21 q22 X hb3 o3 r3 hown4 hg4 hbx3 hb34 hG hmF n3 q31 q32
          go_loopw [51] (fun vi wr => ∃ i : Nat, vi = .int .i64 i ∧ i ≤ N ∧ Hid (wr.ownsRow w.heap.size 114 2 (.slice (some ⟨G, 0, none⟩) N N) N (cells2 (dealRow p (s :: tape) N i))) ∧ Hid (wr.heap[w.heap.size]? = some (.cells #[.int .i64 p] 3 (0, 0))) ∧ Hid (Reads wr a3 ((trim (s :: tape)).map (Value.int .i64))) ∧ Hid (Below w.heap.size w wr)) (fun vi _ => N - (intOf vi).toNat)
          case atStart => exact ⟨0, rfl, by omega, HOW, HBX, HRF, HBl⟩
          case round =>
            obtain ⟨i, rfl, hiN, hO, hbx, hrd, hb⟩ := hrel
            by_cases hi1 : i < N
            · have kp : wr.cell? ⟨w.heap.size, 0, none⟩ = some (.int .i64 p) := heap_cell hbx.out 0
              have hw1 : IntKind.i64.wrap ((i : Int) + 1) = (i : Int) + 1 := IntWalk.i64_in _ (by omega)
              have hwf : (Lit.int .i64 ((i : Int) + 1)).wf = true := by simp [Lit.wf, IntKind.min, IntKind.max, IntKind.signed, IntKind.bits]; omega
              obtain ⟨y, hy⟩ : ∃ y, evp ((i + 1 : Nat) : Int) (s :: tape) % p = y := ⟨_, rfl⟩
              have CA := Lib.hid (poly_At p (trim (s :: tape)) ((i : Int) + 1) a3 mF c3 wr HP.out hwf HMF.out (ints_B0 hrd.out) hrd.out HT.out)
              rw [Int.emod_eq_of_lt (show (0 : Int) ≤ (i : Int) + 1 by omega) (by omega), evp_trim, show (i : Int) + 1 = ((i + 1 : Nat) : Int) by omega, hy, show ((i + 1 : Nat) : Int) = (i : Int) + 1 by omega] at CA
              have HY : Hid (pV (dealP p (s :: tape) i) = (.int .i64 ((i : Int) + 1), .int .i64 y)) := by
                show _ = _
                unfold pV dealP
                rw [hy]
                rfl
              clear hy hwf
              go_wp2_with (go_at_call 18; refine CA.out.mono ?_; rintro e w5 ⟨rfl, hb5⟩; have ho5 := own_below hO.out hb5; have g1 := ho5.cellAt (i * 2) (by omega); have g2 := ho5.cellAt (i * 2 + 1) (by omega); have h1 := ho5.frozenAt (i * 2); have h2 := ho5.frozenAt (i * 2 + 1); obtain ⟨u1, u2⟩ := deal_old p (s :: tape) hi1; rw [u1] at g1; rw [u2] at g2)
              have st1 := ho5.stored (i * 2) (.int .i64 ((i : Int) + 1))
              have st2 := st1.1.stored (i * 2 + 1) (.int .i64 y)
              have HO6 : Hid (World.ownsRow ((w5.setCell ⟨G, i * 2, none⟩ (.int .i64 ((i : Int) + 1))).setCell ⟨G, i * 2 + 1, none⟩ (.int .i64 y)) w.heap.size 114 2 (.slice (some ⟨G, 0, none⟩) N N) N (cells2 (dealRow p (s :: tape) N (i + 1)))) := by
                show World.ownsRow _ _ _ _ _ _ _
                rw [← dealRow_step, HY.out, cells2_set]; exact st2.1
              have HBX6 : Hid (((w5.setCell ⟨G, i * 2, none⟩ (.int .i64 ((i : Int) + 1))).setCell ⟨G, i * 2 + 1, none⟩ (.int .i64 y)).heap[w.heap.size]? = some (.cells #[.int .i64 p] 3 (0, 0))) := by
                show _ = _
                rw [heap_set_far _ (by omega), heap_set_far _ (by omega), hb5.block _ (Array.getElem?_eq_some_iff.1 hbx.out).1]; exact hbx.out
              have HRF6 : Hid (Reads ((w5.setCell ⟨G, i * 2, none⟩ (.int .i64 ((i : Int) + 1))).setCell ⟨G, i * 2 + 1, none⟩ (.int .i64 y)) a3 ((trim (s :: tape)).map (Value.int .i64))) := reads_off (reads_off (hrd.out.below hb5) HOff.out) HOff.out
              have HB6 : Hid (Below w.heap.size w ((w5.setCell ⟨G, i * 2, none⟩ (.int .i64 ((i : Int) + 1))).setCell ⟨G, i * 2 + 1, none⟩ (.int .i64 y))) := below_set (below_set (hb.out.trans (hb5.mono hb.out.size)) (by omega) _) (by omega) _
              clear st1 st2 ho5 g1 g2 h1 h2 hb5 kp
              go_roundw
              case rel => exact ⟨i + 1, by go_num, by omega, HO6, HBX6, HRF6, HB6⟩
              case measure => simp [intOf]; omega
            · obtain rfl : i = N := by omega
              have hR9 : Hid (Reads wr (some ⟨G, 0, none⟩) (cells2 ((dealL p (s :: tape) i).map pV))) := by
                obtain ⟨a9, k9, hv9, hr9, _⟩ := own_reads hO.out
                injection hv9 with x1 x2 x3
                show Reads _ _ _
                rw [← dealRow_full, x1]; exact hr9
              go_wp2_with fail
              go_ret2
              exact ⟨G, i, rfl, Nat.le_refl _, by omega, hR9.out, hb.out⟩
  · unfold dealE at hok
    rw [if_pos hf] at hok
    omega
end Go.Proofs.Ytgdcmebhopjfaaa
namespace Go.Proofs.Ytgdcmebhopjfaaa
open Go.RowKit

/-- The cells of a list of powers. -/
def powCells (l : List (Nat × Nat)) : List Value := l.flatMap fun a => [.int .i64 a.1, .int .i64 a.2]
theorem powCells_append (l m : List (Nat × Nat)) : powCells (l ++ m) = powCells l ++ powCells m := by simp [powCells]
theorem powInfo0 : (Try.prog.info? 131).map (fun i => (i.zero, i.size, i.bytes)) = some (some (.agg #[.int .i64 0, .int .i64 0]), 2, 16) := by kernel_rfl
theorem powInfo : ElemRow Try.prog 131 (.agg #[.int .i64 0, .int .i64 0]) 2 16 := elemRow_of powInfo0 rfl (by omega)

theorem lt_sq' {n d : Nat} (h : n < d * d) : (n : Int) < (d : Int) * d := by
  have h2 : ((d * d : Nat) : Int) = (d : Int) * d := by push_cast; rfl
  omega
theorem ge_sq' {n d : Nat} (h : d * d ≤ n) : (d : Int) * d ≤ (n : Int) := by
  have h2 : ((d * d : Nat) : Int) = (d : Int) * d := by push_cast; rfl
  omega

def FactorPost (n : Nat) (w : World) (e : Ending) (w' : World) : Prop :=
  ∃ l v, Factors n l ∧ l.length ≤ 1000000 ∧ e = .returned (.tuple #[v, .int .i64 0]) ∧ w'.ownsRow w.heap.size 131 2 v l.length (powCells l) ∧ Below w.heap.size w w'

set_option maxRecDepth 100000 in
set_option maxHeartbeats 1000000 in
theorem prime_Factor (n : Nat) (w : World) (h1 : 1 ≤ n) (hn : n ≤ 1000000) :
    Calls Try.prog 92 #[.int .i64 n] w (FactorPost n w) := by
  have d1 : decide ((1000000 : Int) < n) = false := by simp; omega
  go_enter Try.func92, Try.ntmps92
  go_wp2_with fail
  go_loopw [0, 4, 5] (fun vm vo vd wr => ∃ (m d : Nat) (l : List (Nat × Nat)), vm = .int .i64 m ∧ vd = .int .i64 d ∧ Hid (Fac n m d l) ∧ 1 ≤ m ∧ m ≤ 1000000 ∧ 2 ≤ d ∧ d ≤ 1000001 ∧ l.length + 2 ≤ d ∧ wr.ownsRow w.heap.size 131 2 vo l.length (powCells l) ∧ Below w.heap.size w wr)
    (fun vm _ vd _ => (intOf vm).toNat + 1 - (intOf vd).toNat)
  case atStart => exact ⟨n, 2, [], rfl, rfl, Fac.start n h1, h1, hn, by omega, by omega, by simp, World.ownsRow_nil _ _ _ _, Below.refl _ _⟩
  case round =>
    obtain ⟨m, d, l, rfl, rfl, hF, hm1, hm2, hd1, hd2, hll, hown, hbel⟩ := hrel
    by_cases hm : m = 1
    · subst hm
      obtain ⟨ao, cp, hv, hR, hnone, hmx⟩ := own_reads hown
      subst hv
      have hlen : l.length ≤ 1000000 := by omega
      go_wp2_with (first | (at_make; refine make_cap rfl _ _ 127 rfl w.heap.size 131 _ 2 16 Try.underlying127 powInfo _ _ _ l.length rfl rfl rfl ?m1 ?m2 ?m3 ?_))
      case m1 => omega
      case m2 => exact hmx
      case m3 => exact hbel.size
      intro w1 hown1 hg1
      have hb1 : Below wr.heap.size wr w1 := below_of_grown hg1 (Nat.le_refl _) (by intro k hk; cases hk)
      have hR1 := Lib.hid (hR.below hb1)
      have hbel1 := hbel.trans (hb1.mono hbel.size)
      have hF1 := hF.out.last
      have one : ∀ u ∈ powCells l, u.oneCell' = true := by
        intro u hu
        simp only [powCells, List.mem_flatMap] at hu
        obtain ⟨a, _, ha⟩ := hu
        simp at ha
        rcases ha with rfl | rfl <;> rfl
      have ONE := Lib.hid one
      have HF1 := Lib.hid hF1
      have HN := Lib.hid hnone
      have hcl : Hid ((powCells l).length = l.length * 2) := hown.1
      clear one hF1 hnone hown hR hg1 hb1
      go_wp2_with (at_builtin; refine app_all rfl (.tmp 42) (.tmp 43) 127 rfl w.heap.size 131 _ 2 16 Try.underlying127 powInfo _ 0 [] rfl hown1 ao l.length cp (powCells l) rfl HN.out hcl.out hR1.out ONE.out ?m4 ?m5 ?m6 ?_)
      case m4 => unfold maxLen; omega
      case m5 => omega
      case m6 => exact hbel1.size
      intro v2 w2 hown2 _ hbel2
      go_wp2_with fail
      go_ret2
      exact ⟨l, v2, HF1.out, hlen, rfl, by simpa using hown2, hbel1.trans hbel2⟩
    · have hm2' : 2 ≤ m := by omega
      obtain ⟨p0, p1⟩ := sq_int d 1000001 hd2
      have hdm := hF.out.nod.ge hm2'
      by_cases hsq : m < d * d
      · have hsq2 : (m : Int) < (d : Int) * d := by have := lt_sq' hsq; omega
        have hF2 := Lib.hid (hF.out.jump hm2' hsq)
        clear hsq
        go_wp2_with fail
        go_loopw [0, 6] (fun vm vk wi => ∃ m2 k : Nat, vm = .int .i64 m2 ∧ vk = .int .i64 k ∧ Hid (m ^ k * m2 = m) ∧ 1 ≤ m2 ∧ k + m2 ≤ m ∧ wi = wr) (fun vm _ _ => (intOf vm).toNat)
        case atStart => exact ⟨m, 0, rfl, rfl, by show _ = _; simp, hm1, by omega, rfl⟩
        case round =>
          obtain ⟨m2, k, rfl, rfl, hk, hm21, hkm, rfl⟩ := hrel
          by_cases hdv : m ∣ m2
          · have ht := dvd_beq m2 m hdv
            have hk2 := Lib.hid (quo_step hk.out hdv)
            have hq1 : 1 ≤ m2 / m := Nat.div_pos (Nat.le_of_dvd (by omega) hdv) (by omega)
            have hq2 : m2 / m < m2 := Nat.div_lt_self (by omega) (by omega)
            clear hdv
            go_wp2_with fail
            go_roundw
            case rel => exact ⟨m2 / m, k + 1, by go_num, by go_num, hk2, hq1, by omega, by trivial⟩
            case measure => simp [intOf]; omega
          · have ht := ndvd_beq m2 m hdv
            have HN := Lib.hid hdv
            clear hdv
            by_cases hk0 : k = 0
            · subst hk0
              have hmm : m2 = m := by have := hk.out; simpa using this
              subst hmm
              have hF3 := Lib.hid (hF2.out.skip HN.out)
              exact absurd (Nat.dvd_refl _) HN.out
            · have hF3 := Lib.hid (hF2.out.take (by omega) (by omega) hk.out HN.out)
              have hkp : 0 < k := by omega
              have hge : m2 = 1 ∨ m + 1 ≤ m2 := by
                by_cases h2 : 2 ≤ m2
                · exact .inr (hF3.out.nod.ge h2)
                · omega
              go_wp2_with (at_builtin; refine app_one rfl (.tmp 34) (.tmp 38) 127 rfl w.heap.size 131 _ 2 16 Try.underlying127 powInfo _ l.length (powCells l) rfl hown [.int .i64 m, .int .i64 k] rfl rfl ?c1 ?c2 ?c3 ?c4 ?_)
              case c1 => intro u hu; simp at hu; rcases hu with rfl | rfl <;> rfl
              case c2 => unfold maxLen; omega
              case c3 => omega
              case c4 => exact hbel.size
              intro v' w1 hown' _ hbel'
              go_wp2_with fail
              go_roundw
              case rel => exact ⟨m2, m + 1, l ++ [(m, k)], rfl, by go_num, hF3, hm21, by omega, by omega, by omega, by simp; omega, by rw [powCells_append, List.length_append]; exact hown', hbel.trans hbel'⟩
              case measure => simp [intOf]; omega
      · have hsq2 : ¬ (m : Int) < (d : Int) * d := by have := ge_sq' (by omega : d * d ≤ m); omega
        have hF2 := hF
        clear hsq
        go_wp2_with fail
        go_loopw [0, 6] (fun vm vk wi => ∃ m2 k : Nat, vm = .int .i64 m2 ∧ vk = .int .i64 k ∧ Hid (d ^ k * m2 = m) ∧ 1 ≤ m2 ∧ k + m2 ≤ m ∧ wi = wr) (fun vm _ _ => (intOf vm).toNat)
        case atStart => exact ⟨m, 0, rfl, rfl, by show _ = _; simp, hm1, by omega, rfl⟩
        case round =>
          obtain ⟨m2, k, rfl, rfl, hk, hm21, hkm, rfl⟩ := hrel
          by_cases hdv : d ∣ m2
          · have ht := dvd_beq m2 d hdv
            have hk2 := Lib.hid (quo_step hk.out hdv)
            have hq1 : 1 ≤ m2 / d := Nat.div_pos (Nat.le_of_dvd (by omega) hdv) (by omega)
            have hq2 : m2 / d < m2 := Nat.div_lt_self (by omega) (by omega)
            clear hdv
            go_wp2_with fail
            go_roundw
            case rel => exact ⟨m2 / d, k + 1, by go_num, by go_num, hk2, hq1, by omega, by trivial⟩
            case measure => simp [intOf]; omega
          · have ht := ndvd_beq m2 d hdv
            have HN := Lib.hid hdv
            clear hdv
            by_cases hk0 : k = 0
            · subst hk0
              have hmm : m2 = m := by have := hk.out; simpa using this
              subst hmm
              have hF3 := Lib.hid (hF2.out.skip HN.out)
              have hge : m2 = 1 ∨ d + 1 ≤ m2 := .inr (hF3.out.nod.ge hm2')
              go_wp2_with fail
              go_roundw
              case rel => exact ⟨m2, d + 1, l, rfl, by go_num, hF3, hm1, hm2, by omega, by omega, by omega, hown, hbel⟩
              case measure => simp [intOf]; omega
            · have hF3 := Lib.hid (hF2.out.take (by omega) (by omega) hk.out HN.out)
              have hkp : 0 < k := by omega
              have hge : m2 = 1 ∨ d + 1 ≤ m2 := by
                by_cases h2 : 2 ≤ m2
                · exact .inr (hF3.out.nod.ge h2)
                · omega
              go_wp2_with (at_builtin; refine app_one rfl (.tmp 34) (.tmp 38) 127 rfl w.heap.size 131 _ 2 16 Try.underlying127 powInfo _ l.length (powCells l) rfl hown [.int .i64 d, .int .i64 k] rfl rfl ?e1 ?e2 ?e3 ?e4 ?_)
              case e1 => intro u hu; simp at hu; rcases hu with rfl | rfl <;> rfl
              case e2 => unfold maxLen; omega
              case e3 => omega
              case e4 => exact hbel.size
              intro v' w1 hown' _ hbel'
              go_wp2_with fail
              go_roundw
              case rel => exact ⟨m2, d + 1, l ++ [(d, k)], rfl, by go_num, hF3, hm21, by omega, by omega, by omega, by simp; omega, by rw [powCells_append, List.length_append]; exact hown', hbel.trans hbel'⟩
              case measure => simp [intOf]; omega

set_option maxHeartbeats 400000 in
theorem prime_Factor_bad (n : Int) (w : World) (hn : n < 1 ∨ 1000000 < n) :
    Calls Try.prog 92 #[.int .i64 n] w fun e w' => e = .returned (.tuple #[.slice none 0 0, .int .i64 1]) ∧ w = w' := by
  by_cases h : n < 1
  · go_enter Try.func92, Try.ntmps92
    go_wp2_with fail
    go_ret2
    exact ⟨rfl, rfl⟩
  · have h1 : decide (1000000 < n) = true := by simp; omega
    go_enter Try.func92, Try.ntmps92
    go_wp2_with fail
    go_ret2
    exact ⟨rfl, rfl⟩
end Go.Proofs.Ytgdcmebhopjfaaa
