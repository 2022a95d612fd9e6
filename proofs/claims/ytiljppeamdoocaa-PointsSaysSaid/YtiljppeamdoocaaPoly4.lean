/- poly.checks, poly.Mul, poly.Add. -/
import Derived.Test.YtiljppeamdoocaaPoly3
import Derived.Laws.CopyOwn
namespace Go.Proofs.Ytiljppeamdoocaa
open Go.RowKit

structure PolOk (p : Int) (f : List Int) : Prop where
  p1 : 2 ≤ p
  p2 : p ≤ 997
  pr : IsPr p.toNat
  len : f.length ≤ 40
  inF : InF p f
  trm : Trm f
theorem polOk_of {p : Int} {f : List Int} (h : polE p f = 0) : PolOk p f := by
  unfold polE at h
  rcases fldE_cases p with ⟨h1, h2, h3, h4⟩ | h1
  · rw [h1, if_neg (by omega)] at h
    split at h
    · omega
    · rename_i hl
      split at h
      · omega
      · rename_i ha
        split at h
        · omega
        · rename_i ht
          refine ⟨h2, h3, h4, by omega, fun x hx => ?_, ?_⟩
          · rw [Bool.not_eq_true, List.any_eq_false] at ha
            have := ha x hx
            unfold outF at this
            simp at this
            omega
          · rcases Nat.eq_zero_or_pos f.length with h0 | h0
            · exact .inl h0
            · exact .inr fun hc => ht ⟨h0, hc⟩
  · rw [h1, if_pos rfl] at h; omega
noncomputable def chkE (p : Int) (f g : List Int) : Int := if polE p f = 0 then polE p g else polE p f
theorem chkE_zero {p : Int} {f g : List Int} (hf : polE p f = 0) (hg : polE p g = 0) : chkE p f g = 0 := by unfold chkE; rw [if_pos hf, hg]
theorem chkE_ok {p : Int} {f g : List Int} (h : chkE p f g = 0) : polE p f = 0 ∧ polE p g = 0 := by
  unfold chkE at h
  split at h
  · exact ⟨‹_›, h⟩
  · exact absurd h ‹_›
set_option maxRecDepth 20000 in
set_option maxHeartbeats 1000000 in
theorem poly_checks (p : Int) (f g : List Int) (ao bo : Option Addr) (nf ng ca cb : Nat) (w : World) (hp : (Lit.int .i64 p).wf = true) (hlf : f.length = nf) (hlg : g.length = ng) (h63 : nf ≤ 9223372036854775807) (h64 : ng ≤ 9223372036854775807)
    (hF : Hid (Reads w ao (f.map (Value.int .i64)))) (hG : Hid (Reads w bo (g.map (Value.int .i64)))) :
    Calls Try.prog 97 #[.int .i64 p, .slice ao nf ca, .slice bo ng cb] w fun e w' => e = .returned (.int .i64 (chkE p f g)) ∧ Below w.heap.size w w' := by
  have HP := Lib.hid hp
  have HLF := Lib.hid hlf
  have HLG := Lib.hid hlg
  have C1 := Lib.hid (poly_Check p f ao nf ca w hp hlf h63 hF)
  clear hp hlf hlg
  obtain ⟨c, hc⟩ : ∃ c, polE p f = c := ⟨_, rfl⟩
  rw [hc] at C1
  by_cases h0 : c = 0
  · subst h0
    have hE : Hid (chkE p f g = polE p g) := by show _ = _; unfold chkE; rw [if_pos hc]
    clear hc
    go_enter Try.func97, Try.ntmps97
    go_wp2_with (first | (go_at_call 39; with_reducible refine C1.out.mono ?_; rintro e w' ⟨rfl, hb1⟩; have HG1 := Lib.hid (hG.out.below hb1)) | (go_at_call 39; refine (poly_Check p g bo ng cb _ HP.out HLG.out h64 HG1).mono ?_; rintro e w'' ⟨rfl, hb2⟩))
    go_ret
    exact ⟨by rw [hE.out]; rfl, hb1.trans (hb2.mono hb1.size)⟩
  · have hE : Hid (chkE p f g = c) := by show _ = _; unfold chkE; rw [if_neg (by rw [hc]; exact h0), hc]
    have hc0 : (c != 0) = true := by simp [h0]
    clear hc h0
    go_enter Try.func97, Try.ntmps97
    go_wp2_with (go_at_call 39; refine C1.out.mono ?_; rintro e w' ⟨rfl, hb1⟩)
    go_ret
    exact ⟨by rw [hE.out]; rfl, hb1⟩
set_option maxRecDepth 20000 in
set_option maxHeartbeats 1000000 in
theorem poly_Mul_bad (p : Int) (f g : List Int) (ao bo : Option Addr) (nf ng ca cb : Nat) (w : World) (hp : (Lit.int .i64 p).wf = true) (hlf : f.length = nf) (hlg : g.length = ng) (h63 : nf ≤ 9223372036854775807) (h64 : ng ≤ 9223372036854775807)
    (hF : Hid (Reads w ao (f.map (Value.int .i64)))) (hG : Hid (Reads w bo (g.map (Value.int .i64)))) (hc : chkE p f g ≠ 0) :
    Calls Try.prog 35 #[.int .i64 p, .slice ao nf ca, .slice bo ng cb] w fun e w' => e = .returned (.tuple #[.slice none 0 0, .int .i64 (chkE p f g)]) ∧ Below w.heap.size w w' := by
  have C1 := Lib.hid (poly_checks p f g ao bo nf ng ca cb w hp hlf hlg h63 h64 hF hG)
  obtain ⟨c, hcc⟩ : ∃ c, chkE p f g = c := ⟨_, rfl⟩
  rw [hcc] at C1 hc ⊢
  have hc0 : (c != 0) = true := by simp [hc]
  clear hp hlf hlg hc hcc
  go_enter Try.func35, Try.ntmps35
  go_wp2_with (go_at_call 97; refine C1.out.mono ?_; rintro e w' ⟨rfl, hb1⟩)
  go_ret2
  exact ⟨rfl, hb1⟩
/-- What Mul hands back for right polynomials. -/
def MulPost (p : Int) (c : Nat → Int) (w : World) (e : Ending) (w' : World) : Prop :=
  ∃ h, IsPol p c h ∧ Below w.heap.size w w' ∧ ((40 < h.length ∧ e = .returned (.tuple #[.slice none 0 0, .int .i64 2])) ∨ (h.length ≤ 40 ∧ ∃ v, e = .returned (.tuple #[v, .int .i64 0]) ∧ w'.ownsRow w.heap.size 3 1 v h.length (h.map (Value.int .i64))))
set_option maxRecDepth 20000 in
set_option maxHeartbeats 1000000 in
theorem poly_Mul (p : Int) (f g : List Int) (ao bo : Option Addr) (nf ng ca cb : Nat) (w : World) (hp : (Lit.int .i64 p).wf = true) (hlf : f.length = nf) (hlg : g.length = ng)
    (hF : Hid (Reads w ao (f.map (Value.int .i64)))) (hG : Hid (Reads w bo (g.map (Value.int .i64)))) (hf : polE p f = 0) (hg : polE p g = 0) :
    Calls Try.prog 35 #[.int .i64 p, .slice ao nf ca, .slice bo ng cb] w (MulPost p (conv f g) w) := by
  have OF := Lib.hid (polOk_of hf)
  have OG := Lib.hid (polOk_of hg)
  have hl1 := OF.out.len
  have hl2 := OG.out.len
  have C1 := Lib.hid (poly_checks p f g ao bo nf ng ca cb w hp hlf hlg (by omega) (by omega) hF hG)
  rw [chkE_zero hf hg] at C1
  have HLF := Lib.hid hlf
  have HLG := Lib.hid hlg
  rw [hlf] at hl1
  rw [hlg] at hl2
  clear hp hlf hlg hf hg
  go_enter Try.func35, Try.ntmps35
  go_wp2_with (first | (go_at_call 97; refine C1.out.mono ?_; rintro e w1 ⟨rfl, hb1⟩; have HF1 := Lib.hid (hF.out.below hb1); have HG1 := Lib.hid (hG.out.below hb1)) | (go_at_call 79; refine (poly_Product p f g nf ng ao bo ca cb _ OF.out.p1 OF.out.p2 HLF.out HLG.out (by omega) (by omega) OF.out.inF OG.out.inF HF1 HG1).mono ?_; rintro e w2 ⟨h, hpol, v, rfl, hown, hb2⟩; obtain ⟨ho, hcap, hv, hRh, hn2, hm2⟩ := own_reads hown; obtain ⟨nh, hnh⟩ : ∃ nh, h.length = nh := ⟨_, rfl⟩; rw [hnh] at hv; rw [hv]))
  · rename_i hx
    go_ret2
    exact ⟨h, hpol, hb1.trans (hb2.mono hb1.size), .inl ⟨by omega, rfl⟩⟩
  · rename_i hx
    go_ret2
    refine ⟨h, hpol, hb1.trans (hb2.mono hb1.size),   .inr ⟨by omega, v, by rw [hv]; rfl, own_mono hown hb1.size⟩⟩
theorem own_of_heap {w : World} {base e G n : Nat} (f : Nat → Value) (hb : base ≤ G) (h : w.heap[G]? = some (.cells (rowF n f).toArray e (0, 0))) (hn : n ≤ maxLen) : Own w base e G n n f :=
  ⟨by rw [rowF_length, Nat.mul_one], .inr ⟨G, n, (rowF n f).toArray, rfl, hb, h, Nat.le_refl _, hn, by simp [rowF_length], by rw [Nat.mul_one, List.take_of_length_le (by simp [rowF_length])]⟩⟩
theorem splice_row (n : Nat) (f : List Int) (h : f.length ≤ n) : splice (rowF n fun _ => Value.int .i64 0) 0 (f.map (Value.int .i64)) = rowF n (iV (co f)) := by
  apply List.ext_getElem?
  intro j
  unfold splice
  rw [List.take_zero, List.nil_append, Nat.zero_add, List.length_map, List.getElem?_append]
  by_cases hj : j < n
  · rw [rowF_get _ hj]
    by_cases h2 : j < f.length
    · rw [if_pos (by rw [List.length_map]; exact h2), List.getElem?_map, co_some h2]; rfl
    · rw [if_neg (by rw [List.length_map]; exact h2), List.getElem?_drop, List.length_map, show f.length + (j - f.length) = j by omega, rowF_get _ hj]
      unfold iV
      rw [co_out (by omega)]
  · rw [if_neg (by rw [List.length_map]; omega), List.getElem?_eq_none (by simp [rowF_length]; omega), List.getElem?_eq_none (by rw [rowF_length]; omega)]
def addS (p : Int) (f g : List Int) (j k : Nat) : Int := if k < j then (co f k + co g k) % p else co f k
theorem addS_step (p : Int) (f g : List Int) (j k : Nat) : addS p f g (j + 1) k = if k = j then (addS p f g j j + co g j) % p else addS p f g j k := by
  unfold addS
  by_cases h : k = j
  · subst h; rw [if_pos rfl, if_pos (by omega), if_neg (by omega)]
  · rw [if_neg h]
    by_cases h2 : k < j
    · rw [if_pos h2, if_pos (by omega)]
    · rw [if_neg h2, if_neg (by omega)]
set_option maxRecDepth 20000 in
set_option maxHeartbeats 1000000 in
theorem poly_Add_bad (p : Int) (f g : List Int) (ao bo : Option Addr) (nf ng ca cb : Nat) (w : World) (hp : (Lit.int .i64 p).wf = true) (hlf : f.length = nf) (hlg : g.length = ng) (h63 : nf ≤ 9223372036854775807) (h64 : ng ≤ 9223372036854775807)
    (hF : Hid (Reads w ao (f.map (Value.int .i64)))) (hG : Hid (Reads w bo (g.map (Value.int .i64)))) (hc : chkE p f g ≠ 0) :
    Calls Try.prog 34 #[.int .i64 p, .slice ao nf ca, .slice bo ng cb] w fun e w' => e = .returned (.tuple #[.slice none 0 0, .int .i64 (chkE p f g)]) ∧ Below w.heap.size w w' := by
  have C1 := Lib.hid (poly_checks p f g ao bo nf ng ca cb w hp hlf hlg h63 h64 hF hG)
  obtain ⟨c, hcc⟩ : ∃ c, chkE p f g = c := ⟨_, rfl⟩
  rw [hcc] at C1 hc ⊢
  have hc0 : (c != 0) = true := by simp [hc]
  clear hp hlf hlg hc hcc
  go_enter Try.func34, Try.ntmps34
  go_wp2_with (go_at_call 97; refine C1.out.mono ?_; rintro e w' ⟨rfl, hb1⟩)
  go_ret2
  exact ⟨rfl, hb1⟩
/-- What is handed back: a polynomial and no error. -/
def Pol2Post (p : Int) (c : Nat → Int) (w : World) (e : Ending) (w' : World) : Prop :=
  ∃ h v, IsPol p c h ∧ Below w.heap.size w w' ∧ e = .returned (.tuple #[v, .int .i64 0]) ∧ w'.ownsRow w.heap.size 3 1 v h.length (h.map (Value.int .i64))
theorem add_made {w w1 w2 : World} {base G n : Nat} {L : List Value} (h : Own w2 base 3 G n n (fun _ => Value.int .i64 0)) (hL : (rowF n fun _ => Value.int .i64 0) = L) (hgs : w1.heap.size = G) (hb1 : Below w.heap.size w w1) (hg : w1.grownBy w2 none) :
    w2.heap[G]? = some (.cells L.toArray 3 (0, 0)) ∧ Below w.heap.size w w2 := by
  refine ⟨?_, hb1.trans (below_of_grown hg hb1.size (by intro k hk; cases hk))⟩
  rcases h.2 with ⟨hv, _⟩ | ⟨g, cap, cur, hv, hbg, hh, hnc, hcm, hcs, htake⟩
  · cases hv
  · injection hv with e1 e2 e3
    injection e1 with e1
    injection e1 with e1
    subst e1 e3
    rw [hh, ← hL, ← htake, List.take_of_length_le (by rw [Array.length_toList, hcs]; exact Nat.le_refl _)]
theorem add_src {w : World} {ao : Option Addr} {F : List Value} (h : Reads w ao F) (hpos : 0 < F.length) : ∃ ad, ao = some ad ∧ ∀ j v, F[j]? = some v → w.cell? (ad.add j) = some v := by
  obtain ⟨b, o, rfl, _⟩ := h 0 _ (List.getElem?_eq_getElem hpos)
  refine ⟨_, rfl, fun j v hv => ?_⟩
  obtain ⟨b2, o2, ha, hc⟩ := h j v hv
  injection ha with ha
  injection ha with e1 e2
  subst e1 e2
  rw [Addr.add_lit]; exact hc
set_option maxRecDepth 100000 in
set_option maxHeartbeats 2000000 in
theorem poly_Add (p : Int) (f g : List Int) (ao bo : Option Addr) (nf ng ca cb : Nat) (w : World) (hp : (Lit.int .i64 p).wf = true) (hlf : f.length = nf) (hlg : g.length = ng)
    (hF : Hid (Reads w ao (f.map (Value.int .i64)))) (hG : Hid (Reads w bo (g.map (Value.int .i64)))) (hf : polE p f = 0) (hg : polE p g = 0) :
    Calls Try.prog 34 #[.int .i64 p, .slice ao nf ca, .slice bo ng cb] w (Pol2Post p (fun k => co f k + co g k) w) := by
  have OF := Lib.hid (polOk_of hf)
  have OG := Lib.hid (polOk_of hg)
  have p1 := OF.out.p1
  have p2 := OF.out.p2
  have hl1 := OF.out.len
  have hl2 := OG.out.len
  have C1 := Lib.hid (poly_checks p f g ao bo nf ng ca cb w hp hlf hlg (by omega) (by omega) hF hG)
  rw [chkE_zero hf hg] at C1
  have HLF := Lib.hid hlf
  have HLG := Lib.hid hlg
  rw [hlf] at hl1
  rw [hlg] at hl2
  obtain ⟨n, hn⟩ : ∃ n, max nf ng = n := ⟨_, rfl⟩
  have hmx : max (nf : Int) (ng : Int) = (n : Int) := by omega
  have hn1 : nf ≤ n := by omega
  have hn2 : ng ≤ n := by omega
  have hn3 : n ≤ 40 := by omega
  have HNM : Hid (n = max nf ng) := hn.symm
  have hcs : Hid ((f.map (Value.int .i64)).length = Nat.min nf n) := by show _ = _; rw [List.length_map, HLF.out]; exact (Nat.min_eq_left hn1).symm
  obtain ⟨L, hL⟩ : ∃ L, (rowF n fun _ => Value.int .i64 0) = L := ⟨_, rfl⟩
  obtain ⟨F, hFe⟩ : ∃ F, f.map (Value.int .i64) = F := ⟨_, rfl⟩
  have HLl : Hid (L.length = n) := by show _ = _; rw [← hL, rowF_length]
  have HLe := Lib.hid hL
  have HFe := Lib.hid hFe
  have HF1 : Hid (∀ u ∈ F, u.oneCell' = true) := by show ∀ u ∈ F, _; rw [← hFe]; exact ints_one .i64 f
  rw [hFe] at hF hcs
  clear hp hlf hlg hf hg hn hL hFe
  by_cases hlt : nf < ng
  all_goals
    go_enter Try.func34, Try.ntmps34
    go_wp2_with (first | (go_at_call 97; refine C1.out.mono ?_; rintro e w1 ⟨rfl, hb1⟩; have HFr := Lib.hid (hF.out.below hb1); have HGr := Lib.hid (hG.out.below hb1)) | (at_make; refine make_own rfl _ _ 24 rfl w.heap.size 3 _ 8 Try.underlying24 intRow rfl _ _ _ _ n (by rfl) (by rfl) (by omega) (by omega) (by omega) (by unfold maxLen; omega) hb1.size ?_; intro w2 hown hg2; obtain ⟨G, hgs⟩ : ∃ g, w1.heap.size = g := ⟨_, rfl⟩; rw [hgs] at hown ⊢; obtain ⟨Gh1, Gh2⟩ := add_made hown HLe.out hgs hb1 hg2; have HF2 := Lib.hid (HFr.out.grown hg2 (fun a _ h => by cases h))) | (refine wpList_copy_splice rfl (.tmp 25) (.tmp 26) _ _ rfl 3 Try.underlying24 (by kernel_rfl) (some ⟨G, 0, none⟩) ao n n nf ca (by rfl) (by rfl) G 0 L 3 Gh1 F hcs.out (fun hpos => ⟨rfl, add_src HF2.out hpos⟩) (by rw [hcs.out, HLl.out]; show 0 + min nf n ≤ n; omega) HF1.out w.heap.size w Gh2 (by have := hb1.size; omega) ?_; intro w3 hh3 hb3))
    have hO0 : Hid (Own w3 w.heap.size 3 G n n (iV (addS p f g 0))) := by
      show Own _ _ _ _ _ _ _
      refine own_of_heap (iV (addS p f g 0)) hown.lt.1 ?_ (by unfold maxLen; omega)
      rw [hh3.out, ← HLe.out, ← HFe.out, splice_row n f (by rw [HLF.out]; exact hn1)]
      congr 1
    have HB0 := Lib.hid hb3
    clear hown hg2 Gh1 Gh2 HF2 hh3 hb3 HFr HGr hb1 hgs
    go_loopw [30] (fun vx wr => ∃ j : Nat, vx = .int .i64 j ∧ j ≤ ng ∧ Hid (Own wr w.heap.size 3 G n n (iV (addS p f g j))) ∧ Hid (Below w.heap.size w wr)) (fun vx _ => ng - (intOf vx).toNat)
    case atStart => exact ⟨0, rfl, by omega, hO0, HB0⟩
    case round =>
      obtain ⟨j, rfl, hjn, hO2, hb2⟩ := hrel
      by_cases hj1 : j < ng
      · obtain ⟨b, hbj⟩ : ∃ b, co g j = b := ⟨_, rfl⟩
        obtain ⟨b2, o2, rfl, c2⟩ := (hG.out.below hb2.out) j (.int .i64 b) (by rw [List.getElem?_map, co_some (by rw [HLG.out]; exact hj1), hbj]; rfl)
        have hb1' := OG.out.inF.co (by omega) j
        rw [hbj] at hb1'
        have hjm : j < n := by omega
        obtain ⟨s, hs⟩ : ∃ s, addS p f g j j = s := ⟨_, rfl⟩
        have hsb : 0 ≤ s ∧ s ≤ 996 := by
          rw [← hs]
          unfold addS
          rw [if_neg (by omega)]
          have := OF.out.inF.co (by omega) j
          omega
        have c3 := hO2.out.cell hjm
        have f3 := hO2.out.frozen j
        unfold iV at c3
        rw [hs] at c3
        have ws : IntKind.i64.wrap (s + b) = s + b := IntWalk.i64_in _ (by omega)
        obtain ⟨r, hr⟩ : ∃ r, (s + b) % p = r := ⟨_, rfl⟩
        have hrt : Int.tmod (s + b) p = r := by rw [Int.tmod_eq_emod_of_nonneg (by omega)]; exact hr
        have hp0 : ¬ p = 0 := by omega
        have wr1 : IntKind.i64.wrap r = r := IntWalk.i64_in _ (by have h1 := Int.emod_nonneg (s + b) hp0; have h2 := Int.emod_lt_of_pos (s + b) (show 0 < p by omega); omega)
        have st := hO2.out.store j (.int .i64 r)
        have hO3 := Lib.hid (st.1.congr (f' := iV (addS p f g (j + 1))) fun k _ => by
          unfold iV
          rw [addS_step]
          by_cases hk : k = j
          · subst hk; rw [if_pos rfl, if_pos rfl, hs, hbj, hr]
          · rw [if_neg hk, if_neg hk])
        have hb3 := Lib.hid (hO2.out.belowStore hb2.out (Nat.le_refl _) j (.int .i64 r))
        clear st hs hbj
        go_wp2_with fail
        go_roundw
        case rel => exact ⟨j + 1, by go_num, by omega, hO3, hb3⟩
        case measure => simp [intOf]; omega
      · have hco : ∀ k, addS p f g j k = (co f k + co g k) % p := by
          intro k
          unfold addS
          by_cases hk : k < j
          · rw [if_pos hk]
          · rw [if_neg hk, co_out (f := g) (by rw [HLG.out]; omega), Int.add_zero, OF.out.inF.mod (by omega)]
        have hR : Hid (Reads wr (some ⟨G, 0, none⟩) ((mkL n fun k => (co f k + co g k) % p).map (Value.int .i64))) := by
          show Reads _ _ _
          rw [map_mkL]
          exact (hO2.out.congr (f' := iV fun k => (co f k + co g k) % p) fun k _ => by unfold iV; rw [hco]).reads
        have hpol : Hid (IsPol p (fun k => co f k + co g k) (trim (mkL n fun k => (co f k + co g k) % p))) := isPol_trim fun k => by
          rw [co_mkL]
          split
          · rfl
          · rw [co_out (f := f) (by rw [HLF.out]; omega), co_out (f := g) (by rw [HLG.out]; omega)]
            show 0 = (0 + 0) % p
            rw [Int.add_zero, Int.zero_emod]
        clear hco
        go_wp2_with (go_at_call 76; refine (poly_Trim (mkL n fun k => (co f k + co g k) % p) n (some ⟨G, 0, none⟩) n w.heap.size _ (by omega) (mkL_length _ _) (Nat.le_refl _) (by omega) (fun h => by cases h) hR hb2.out.size).mono ?_; rintro e w' ⟨v, rfl, hv1, hv2⟩)
        go_ret2
        exact ⟨_, v, hpol.out, hb2.out.trans (Below.mono hv2 (Nat.le_refl _)), rfl, hv1⟩
end Go.Proofs.Ytiljppeamdoocaa
