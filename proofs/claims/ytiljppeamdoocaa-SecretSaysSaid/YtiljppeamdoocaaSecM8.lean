/- secret.Join and secret.Deal. -/
import Derived.Test.YtiljppeamdoocaaSecM7
import Derived.Test.YtiljppeamdoocaaSecM5
import Derived.Test.YtiljppeamdoocaaSecM2
import Derived.Lib.AppendZerosOnto
import Derived.Lib.SliceRun
import Derived.Test.YtiljppeamdoocaaSecM1
import Derived.RegionTactic
namespace Go.Proofs.Ytiljppeamdoocaa
open Go.RowKit

noncomputable def joinE (p : Int) (l : Pts) : Int := if ptsE p l ≠ 0 then ptsE p l else if l.length = 0 then 9 else if l.any (fun y => y.1 == 0) = true then 1 else 0
theorem join_zero (y : Int × Int) (w : World) :
    Calls Try.prog 81 #[pA y] w fun e w' => e = .returned (.bool (y.1 == 0)) ∧ Below w.heap.size w w' := by
  have hb := Lib.hid ((Below.refl w.heap.size w).alloc (Nat.le_refl _) (.cells #[.int .i64 y.1, .int .i64 y.2] 71))
  go_enter Try.func81, Try.ntmps81
  go_wp2_with fail
  go_ret
  exact ⟨rfl, hb.out⟩
def JoinRet (p : Int) (l : Pts) (w : World) (e : Ending) (w' : World) : Prop :=
  Below w.heap.size w w' ∧ ((joinE p l = 0 ∧ e = .returned (.tuple #[.int .i64 (ptsV p l 0), .int .i64 0])) ∨ (joinE p l ≠ 0 ∧ e = .returned (.tuple #[.int .i64 0, .int .i64 (joinE p l)])))
set_option maxRecDepth 20000 in
set_option maxHeartbeats 1000000 in
theorem secret_Join (p : Int) (l : Pts) (n : Nat) (ao : Option Addr) (cap : Nat) (w : World) (hp : (Lit.int .i64 p).wf = true) (hl : l.length = n) (h63 : n ≤ 9223372036854775807) (hc : n ≤ cap) (hR : Hid (Reads w ao (cells2 (l.map pV)))) :
    Calls Try.prog 20 #[.int .i64 p, .slice ao n cap] w (JoinRet p l w) := by
  have HL := Lib.hid hl
  have CK := Lib.hid (points_Check p l n ao cap w hp hl h63 hc hR)
  by_cases hok : ptsE p l = 0
  · rw [hok] at CK
    by_cases h0 : n = 0
    · have hE : Hid (joinE p l = 9) := by show _ = _; unfold joinE; rw [if_neg (by omega), if_pos (by omega)]
      have d1 : ((n : Int) == 0) = true := by simp [h0]
      clear hok h0 hl hp
      go_enter Try.func20, Try.ntmps20
      go_wp2_with (go_at_call 49; refine CK.out.mono ?_; rintro e w1 ⟨rfl, hb1⟩)
      go_ret2
      exact ⟨hb1, .inr ⟨by rw [hE.out]; omega, by rw [hE.out]; rfl⟩⟩
    · have d1 : ((n : Int) == 0) = false := by simp [h0]
      have CF := Lib.hid (fun w' (hb : Below w.heap.size w w') => containsFunc_pt 81 (fun x W => by go_simp) (fun y => y.1 == 0) l n ao cap w' hl h63 (hR.out.below hb) (fun y _ W _ => join_zero y W))
      cases ha : l.any (fun y => y.1 == 0) with
      | true =>
        have hE : Hid (joinE p l = 1) := by show _ = _; unfold joinE; rw [if_neg (by omega), if_neg (by omega), if_pos ha]
        rw [ha] at CF
        clear hok h0 hl hp ha
        go_enter Try.func20, Try.ntmps20
        go_wp2_with (first | (go_at_call 49; refine CK.out.mono ?_; rintro e w1 ⟨rfl, hb1⟩) | (go_at_call 51; refine (CF.out _ hb1).mono ?_; rintro e w2 ⟨rfl, s2⟩; have hb2 := hb1.trans (s2.mono hb1.size)))
        go_ret2
        exact ⟨hb2, .inr ⟨by rw [hE.out]; omega, by rw [hE.out]; rfl⟩⟩
      | false =>
        have hE : Hid (joinE p l = 0) := by show _ = _; unfold joinE; rw [if_neg (by omega), if_neg (by omega), if_neg (by rw [ha]; simp)]
        rw [ha] at CF
        have hx0 : (Lit.int .i64 0).wf = true := by decide
        have CA : Hid (∀ w', Below w.heap.size w w' → Calls Try.prog 22 #[.int .i64 p, .slice ao n cap, .int .i64 0] w' fun e w'' => e = .returned (.tuple #[.int .i64 (ptsV p l 0), .int .i64 0]) ∧ Below w'.heap.size w' w'') := fun w' hb => by
          have h := points_At p l 0 n ao cap w' hp hx0 hl hc (hR.out.below hb) hok
          rwa [Int.zero_emod] at h
        clear hok h0 hl hp ha
        go_enter Try.func20, Try.ntmps20
        go_wp2_with (first | (go_at_call 49; refine CK.out.mono ?_; rintro e w1 ⟨rfl, hb1⟩) | (go_at_call 51; refine (CF.out _ hb1).mono ?_; rintro e w2 ⟨rfl, s2⟩; have hb2 := hb1.trans (s2.mono hb1.size)) | (go_at_call 22; refine (CA.out _ hb2).mono ?_; rintro e w3 ⟨rfl, s3⟩; have hb3 := hb2.trans (s3.mono hb2.size)))
        go_ret2
        exact ⟨hb3, .inl ⟨hE.out, rfl⟩⟩
  · have hE : Hid (joinE p l = ptsE p l) := by show _ = _; unfold joinE; rw [if_pos hok]
    obtain ⟨c, hcc⟩ : ∃ c, ptsE p l = c := ⟨_, rfl⟩
    rw [hcc] at CK hE hok
    have hz2 : (c != 0) = true := by simp [hok]
    have HK := Lib.hid hok
    clear hok hl hp hcc
    go_enter Try.func20, Try.ntmps20
    go_wp2_with (go_at_call 49; refine CK.out.mono ?_; rintro e w1 ⟨rfl, hb1⟩)
    go_ret2
    exact ⟨hb1, .inr ⟨by rw [hE.out]; exact HK.out, by rw [hE.out]; rfl⟩⟩
noncomputable def dealE (p s : Int) (tape : List Int) (n : Int) : Int :=
  if fldE p = 1 then 1 else if 11 < tape.length then 2 else if n < 0 ∨ 12 < n ∨ p ≤ n then 1 else if (s :: tape).any (outF p) = true then 1 else 0
/-- The point that is dealt to place i. -/
def dealP (p : Int) (f : List Int) (i : Nat) : Int × Int := (((i + 1 : Nat) : Int), evp ((i + 1 : Nat) : Int) f % p)
def dealL (p : Int) (f : List Int) (n : Nat) : Pts := (List.range n).map (dealP p f)
theorem secret_out (x p : Int) (b : Nat) (w : World) (hc : w.cell? ⟨b, 0, none⟩ = some (.int .i64 p)) :
    Calls Try.prog 75 #[.int .i64 x, .pointer (some ⟨b, 0, none⟩)] w fun e w' => e = .returned (.bool (outF p x)) ∧ w' = w := by
  go_enter Try.func75, Try.ntmps75
  unfold outF
  cases h : decide (x < 0) with
  | true =>
    go_wp2_with fail
    go_ret
    exact ⟨by simp, rfl⟩
  | false =>
    go_wp2_with fail
    go_ret
    exact ⟨by simp, rfl⟩
theorem evp_trim (z : Int) (f : List Int) : evp z (trim f) = evp z f := by
  have h1 : (trim f).length ≤ f.length := by rw [length_trim]; exact tlen_le f
  rw [← evp_more z (trim f) h1]
  unfold evp
  congr 1
  funext k
  exact co_trim f k
theorem trim_ok {p : Int} {f : List Int} (h1 : 2 ≤ p) (h2 : p ≤ 997) (h3 : IsPr p.toNat) (hl : f.length ≤ 40) (hi : InF p f) : polE p (trim f) = 0 :=
  polE_ok ⟨h1, h2, h3, by rw [length_trim]; exact Nat.le_trans (tlen_le f) hl, InF.of_co fun k => by rw [co_trim]; exact hi.co (by omega) k, trm_trim f⟩
theorem inF_of_any {p : Int} {f : List Int} (h : f.any (outF p) = false) : InF p f := by
  intro x hx
  rw [List.any_eq_false] at h
  have := h x hx
  unfold outF at this
  simp at this
  omega
theorem cells2_set : ∀ (L : List (Value × Value)) (i : Nat) (a b : Value), cells2 (L.set i (a, b)) = ((cells2 L).set (i * 2) a).set (i * 2 + 1) b
  | [], _, _, _ => by simp [cells2]
  | z :: L, 0, a, b => rfl
  | z :: L, i + 1, a, b => by
    have ih := cells2_set L i a b
    have e1 : (i + 1) * 2 = i * 2 + 1 + 1 := by omega
    rw [e1]
    show z.1 :: z.2 :: cells2 (L.set i (a, b)) = (z.1 :: z.2 :: ((cells2 L).set (i * 2) a)).set (i * 2 + 1 + 1 + 1) b
    rw [ih]; rfl
def dealRow (p : Int) (f : List Int) (n i : Nat) : List (Value × Value) := (List.range n).map fun k => if k < i then pV (dealP p f k) else (.int .i64 0, .int .i64 0)
theorem dealRow_length (p : Int) (f : List Int) (n i : Nat) : (dealRow p f n i).length = n := by simp [dealRow]
theorem dealRow_step (p : Int) (f : List Int) (n i : Nat) : (dealRow p f n i).set i (pV (dealP p f i)) = dealRow p f n (i + 1) := by
  apply List.ext_getElem?
  intro j
  rw [List.getElem?_set, dealRow_length]
  unfold dealRow
  by_cases hj : j < n
  · by_cases he : i = j
    · subst he; simp [hj]
    · rw [if_neg he]
      simp only [List.getElem?_map, List.getElem?_range hj, Option.map_some]
      by_cases h2 : j < i
      · rw [if_pos h2, if_pos (by omega)]
      · rw [if_neg h2, if_neg (by omega)]
  · rw [List.getElem?_eq_none (by simp; omega), List.getElem?_eq_none (by simp; omega)]
    split
    · rw [if_neg (by omega)]
    · rfl
theorem dealRow_full (p : Int) (f : List Int) (n : Nat) : dealRow p f n n = (dealL p f n).map pV := by
  unfold dealRow dealL
  rw [List.map_map]
  exact List.map_congr_left fun k hk => by rw [if_pos (List.mem_range.1 hk)]; rfl
theorem deal_old (p : Int) (f : List Int) {n i : Nat} (h : i < n) : (cells2 (dealRow p f n i))[i * 2]? = some (.int .i64 0) ∧ (cells2 (dealRow p f n i))[i * 2 + 1]? = some (.int .i64 0) :=
  cells2_get (dealRow p f n i) i (.int .i64 0, .int .i64 0) (by unfold dealRow; simp [h])
theorem ptRow : ElemRow Try.prog 71 (.agg #[.int .i64 0, .int .i64 0]) 2 16 := elemRow_of (by kernel_rfl) rfl (by omega)
theorem made_row (p : Int) (f : List Int) (n : Nat) : (madeCells (Value.agg #[.int .i64 0, .int .i64 0]).cells (n * 2)).toList = cells2 (dealRow p f n 0) := by
  have h0 : ∀ j, j < n * 2 → (cells2 (dealRow p f n 0))[j]? = some (.int .i64 0) := by
    intro j hj
    have hk : j / 2 < n := by omega
    obtain ⟨h1, h2⟩ := cells2_get (dealRow p f n 0) (j / 2) (.int .i64 0, .int .i64 0) (by unfold dealRow; simp [hk])
    rcases (by omega : j = j / 2 * 2 ∨ j = j / 2 * 2 + 1) with e | e
    · rw [← e] at h1; exact h1
    · rw [← e] at h2; exact h2
  apply List.ext_getElem?
  intro j
  by_cases hj : j < n * 2
  · rw [h0 j hj]
    unfold madeCells
    rw [Array.getElem?_toList]
    have hm : j % 2 = 0 ∨ j % 2 = 1 := by omega
    have hs : (Value.agg #[.int .i64 0, .int .i64 0]).cells = #[.int .i64 0, .int .i64 0] := rfl
    rw [hs]
    rcases hm with e | e
    · simp [hj, e]
    · simp [hj, e]
  · rw [List.getElem?_eq_none (by rw [Array.length_toList, size_madeCells]; omega), List.getElem?_eq_none (by rw [cells2_length, dealRow_length]; omega)]
set_option maxRecDepth 100000 in
set_option maxHeartbeats 2000000 in
theorem secret_Deal_bad (p s : Int) (tape : List Int) (n : Int) (nt : Nat) (ao : Option Addr) (cap : Nat) (w : World) (hp : (Lit.int .i64 p).wf = true) (hl : tape.length = nt) (h63 : nt * 8 ≤ 140737488351232) (hnone : ao = none → nt = 0 ∧ cap = 0) (hR : Hid (Reads w ao (tape.map (Value.int .i64)))) (hb : dealE p s tape n ≠ 0) :
    Calls Try.prog 17 #[.int .i64 p, .int .i64 s, .slice ao nt cap, .int .i64 n] w fun e w' => e = .returned (.tuple #[.slice none 0 0, .int .i64 (dealE p s tape n)]) ∧ Below w.heap.size w w' := by
  have HP := Lib.hid hp
  have HN := Lib.hid hnone
  have HL1 : Hid ((tape.map (Value.int .i64)).length = nt * 1) := by show _ = _; rw [List.length_map]; omega
  have HI1 : Hid (∀ u ∈ tape.map (Value.int .i64), u.oneCell' = true) := ints_one .i64 tape
  have CFd := Lib.hid (fun w' => poly_Field p w' hp)
  obtain ⟨W0, hW0⟩ : ∃ W0, w.alloc (.cells #[.int .i64 p] 3) = W0 := ⟨_, rfl⟩
  have hsz0 : W0.heap.size = w.heap.size + 1 := by rw [← hW0, World.size_alloc]
  have hb0 : Below w.heap.size w W0 := by rw [← hW0]; exact (Below.refl _ w).alloc (Nat.le_refl _) _
  have hbox0 : W0.heap[w.heap.size]? = some (.cells #[.int .i64 p] 3 (0, 0)) := by rw [← hW0]; exact heap_alloc_new w _
  have hown1 : Hid ((W0.alloc (.cells #[.int .i64 s] 3)).ownsRow (w.heap.size + 1) 3 1 (.slice (some ⟨w.heap.size + 1, 0, none⟩) 1 1) 1 [.int .i64 s]) := by
    have h := own_lit W0 (w.heap.size + 1) 3 [.int .i64 s] (by omega) (by unfold maxLen; simp)
    rw [hsz0] at h
    exact h
  have hb01 : Below W0.heap.size W0 (W0.alloc (.cells #[.int .i64 s] 3)) := (Below.refl _ W0).alloc (Nat.le_refl _) _
  have hR1 : Hid (Reads (W0.alloc (.cells #[.int .i64 s] 3)) ao (tape.map (Value.int .i64))) := (hR.out.below hb0).below hb01
  have hbox1 : Hid ((W0.alloc (.cells #[.int .i64 s] 3)).heap[w.heap.size]? = some (.cells #[.int .i64 p] 3 (0, 0))) := heap_alloc_old _ _ hbox0
  have HB1 : Hid (Below w.heap.size w (W0.alloc (.cells #[.int .i64 s] 3))) := hb0.trans (hb01.mono hb0.size)
  have k0 : W0.cell? ⟨w.heap.size, 0, none⟩ = some (.int .i64 p) := heap_cell hbox0 0
  have hsz1 : w.heap.size + 1 ≤ (W0.alloc (.cells #[.int .i64 s] 3)).heap.size := by rw [World.size_alloc]; omega
  rw [← hW0] at hown1 hR1 hbox1 HB1 k0 hsz1
  clear hb0 hbox0 hb01 hW0 hsz0
  rcases fldE_cases p with ⟨hf, p1, p2, p3⟩ | hf
  · have HF := Lib.hid hf
    by_cases h12 : 11 < nt
    · have hE : Hid (dealE p s tape n = 2) := by show _ = _; unfold dealE; rw [hf, if_neg (by omega), if_pos (by rw [hl]; exact h12)]
      have d1 : decide ((12 : Int) ≤ nt) = true := by simp; omega
      clear hf hb hp hl hnone p3
      go_enter Try.func17, Try.ntmps17
      go_wp2_with (first | (go_at_call 37; refine (CFd.out _).mono ?_; rw [HF.out]; rintro e w' ⟨rfl, rfl⟩) | (at_builtin; go_must (refine app_all rfl (.tmp 22) (.tmp 23) _ rfl (w.heap.size + 1) 3 _ 1 8 Try.underlying24 intRow _ 1 [.int .i64 s] (by rfl) hown1.out ao nt cap (tape.map (Value.int .i64)) (by rfl) HN.out HL1.out hR1.out HI1.out (by unfold maxLen; omega) (by omega) hsz1 ?_); intro v2 w2 hown2 hgr2 hb2; have hbox2 := (hb2.block _ (Nat.lt_succ_self _)).trans hbox1.out; have k2 : w2.cell? ⟨w.heap.size, 0, none⟩ = some (.int .i64 p) := heap_cell hbox2 0; have HB2 := Lib.hid (HB1.out.trans (hb2.mono (Nat.le_succ _)))))
      go_ret2
      exact ⟨by rw [hE.out]; rfl, HB2.out⟩
    · have d1 : decide ((12 : Int) ≤ nt) = false := by simp; omega
      by_cases hn : n < 0 ∨ 12 < n ∨ p ≤ n
      · have hE : Hid (dealE p s tape n = 1) := by show _ = _; unfold dealE; rw [hf, if_neg (by omega), if_neg (by rw [hl]; exact h12), if_pos hn]
        have hs : decide (n < 0) = true ∨ (decide (n < 0) = false ∧ decide (12 < n) = true) ∨ (decide (n < 0) = false ∧ decide (12 < n) = false ∧ decide (p ≤ n) = true) := by
          simp only [decide_eq_true_eq, decide_eq_false_iff_not]
          omega
        clear hf hb hp hl hnone p3 hn
        rcases hs with e1 | ⟨e1, e2⟩ | ⟨e1, e2, e3⟩
        all_goals
          go_enter Try.func17, Try.ntmps17
          go_wp2_with (first | (go_at_call 37; refine (CFd.out _).mono ?_; rw [HF.out]; rintro e w' ⟨rfl, rfl⟩) | (at_builtin; go_must (refine app_all rfl (.tmp 22) (.tmp 23) _ rfl (w.heap.size + 1) 3 _ 1 8 Try.underlying24 intRow _ 1 [.int .i64 s] (by rfl) hown1.out ao nt cap (tape.map (Value.int .i64)) (by rfl) HN.out HL1.out hR1.out HI1.out (by unfold maxLen; omega) (by omega) hsz1 ?_); intro v2 w2 hown2 hgr2 hb2; have hbox2 := (hb2.block _ (Nat.lt_succ_self _)).trans hbox1.out; have k2 : w2.cell? ⟨w.heap.size, 0, none⟩ = some (.int .i64 p) := heap_cell hbox2 0; have HB2 := Lib.hid (HB1.out.trans (hb2.mono (Nat.le_succ _)))))
          go_ret2
          exact ⟨by rw [hE.out]; rfl, HB2.out⟩
      · have e1 : decide (n < 0) = false := by simp; omega
        have e2 : decide (12 < n) = false := by simp; omega
        have e3 : decide (p ≤ n) = false := by simp; omega
        have ha : (s :: tape).any (outF p) = true := by
          unfold dealE at hb
          rw [hf, if_neg (by omega), if_neg (by rw [hl]; exact h12), if_neg hn] at hb
          by_cases h : (s :: tape).any (outF p) = true
          · exact h
          · rw [if_neg h] at hb; exact absurd rfl hb
        have hE : Hid (dealE p s tape n = 1) := by show _ = _; unfold dealE; rw [hf, if_neg (by omega), if_neg (by rw [hl]; exact h12), if_neg hn, if_pos ha]
        have HA := Lib.hid ha
        have HLc : Hid ((s :: tape).length = 1 + nt) := by show _ = _; rw [List.length_cons, hl]; omega
        clear hf hb hp hl hnone p3 hn ha
        go_enter Try.func17, Try.ntmps17
        go_wp2_with (first | (go_at_call 37; refine (CFd.out _).mono ?_; rw [HF.out]; rintro e w' ⟨rfl, rfl⟩) | (at_builtin; go_must (refine app_all rfl (.tmp 22) (.tmp 23) _ rfl (w.heap.size + 1) 3 _ 1 8 Try.underlying24 intRow _ 1 [.int .i64 s] (by rfl) hown1.out ao nt cap (tape.map (Value.int .i64)) (by rfl) HN.out HL1.out hR1.out HI1.out (by unfold maxLen; omega) (by omega) hsz1 ?_); intro v2 w2 hown2 hgr2 hb2; have hbox2 := (hb2.block _ (Nat.lt_succ_self _)).trans hbox1.out; have k2 : w2.cell? ⟨w.heap.size, 0, none⟩ = some (.int .i64 p) := heap_cell hbox2 0; have HB2 := Lib.hid (HB1.out.trans (hb2.mono (Nat.le_succ _))); obtain ⟨a2, c2, rfl, r2, n2, q21, q22⟩ := own_data hown2) | (go_at_call 53; have X := containsFunc_cap 75 (.pointer (some ⟨w.heap.size, 0, none⟩)) (fun x W => by go_simp) (outF p) (s :: tape) a2 c2 w2 (by rw [HLc.out]; omega) r2 (fun x _ m => (secret_out x p w.heap.size (w2.drewN m) (show World.cell? _ _ = _ from k2)).mono (by rintro e w' ⟨rfl, rfl⟩; exact ⟨rfl, 0, rfl⟩)); rw [HA.out, HLc.out] at X; refine X.mono ?_; rintro e w' ⟨rfl, m, rfl⟩))
        go_ret2
        exact ⟨by rw [hE.out]; rfl, below_drewN HB2.out m⟩
  · have HF := Lib.hid hf
    have hE : Hid (dealE p s tape n = 1) := by show _ = _; unfold dealE; rw [if_pos hf]
    have hb0 := Lib.hid ((Below.refl w.heap.size w).alloc (Nat.le_refl _) (.cells #[.int .i64 p] 3))
    clear hf hb hp hl hnone
    go_enter Try.func17, Try.ntmps17
    go_wp2_with (go_at_call 37; refine (CFd.out _).mono ?_; rw [HF.out]; rintro e w' ⟨rfl, rfl⟩)
    go_ret2
    exact ⟨by rw [hE.out]; rfl, hb0.out⟩
/-- The points that are dealt. -/
def DealPost (p : Int) (f : List Int) (n : Nat) (w : World) (e : Ending) (w' : World) : Prop :=
  ∃ G cap, e = .returned (.tuple #[.slice (some ⟨G, 0, none⟩) n cap, .int .i64 0]) ∧ n ≤ cap ∧ cap ≤ 9223372036854775807 ∧ Reads w' (some ⟨G, 0, none⟩) (cells2 ((dealL p f n).map pV)) ∧ Below w.heap.size w w'
set_option maxRecDepth 100000 in
set_option maxHeartbeats 2000000 in
theorem secret_Deal (p s : Int) (tape : List Int) (n : Int) (nt : Nat) (ao : Option Addr) (cap : Nat) (w : World) (hp : (Lit.int .i64 p).wf = true) (hl : tape.length = nt) (h63 : nt * 8 ≤ 140737488351232) (hnone : ao = none → nt = 0 ∧ cap = 0) (hR : Hid (Reads w ao (tape.map (Value.int .i64)))) (hok : dealE p s tape n = 0) :
    Calls Try.prog 17 #[.int .i64 p, .int .i64 s, .slice ao nt cap, .int .i64 n] w (DealPost p (s :: tape) n.toNat w) := by
  have HP := Lib.hid hp
  have HN := Lib.hid hnone
  have HL1 : Hid ((tape.map (Value.int .i64)).length = nt * 1) := by show _ = _; rw [List.length_map]; omega
  have HI1 : Hid (∀ u ∈ tape.map (Value.int .i64), u.oneCell' = true) := ints_one .i64 tape
  have CFd := Lib.hid (fun w' => poly_Field p w' hp)
  obtain ⟨W0, hW0⟩ : ∃ W0, w.alloc (.cells #[.int .i64 p] 3) = W0 := ⟨_, rfl⟩
  have hsz0 : W0.heap.size = w.heap.size + 1 := by rw [← hW0, World.size_alloc]
  have hb0 : Below w.heap.size w W0 := by rw [← hW0]; exact (Below.refl _ w).alloc (Nat.le_refl _) _
  have hbox0 : W0.heap[w.heap.size]? = some (.cells #[.int .i64 p] 3 (0, 0)) := by rw [← hW0]; exact heap_alloc_new w _
  have hown1 : Hid ((W0.alloc (.cells #[.int .i64 s] 3)).ownsRow (w.heap.size + 1) 3 1 (.slice (some ⟨w.heap.size + 1, 0, none⟩) 1 1) 1 [.int .i64 s]) := by
    have h := own_lit W0 (w.heap.size + 1) 3 [.int .i64 s] (by omega) (by unfold maxLen; simp)
    rw [hsz0] at h
    exact h
  have hb01 : Below W0.heap.size W0 (W0.alloc (.cells #[.int .i64 s] 3)) := (Below.refl _ W0).alloc (Nat.le_refl _) _
  have hR1 : Hid (Reads (W0.alloc (.cells #[.int .i64 s] 3)) ao (tape.map (Value.int .i64))) := (hR.out.below hb0).below hb01
  have hbox1 : Hid ((W0.alloc (.cells #[.int .i64 s] 3)).heap[w.heap.size]? = some (.cells #[.int .i64 p] 3 (0, 0))) := heap_alloc_old _ _ hbox0
  have HB1 : Hid (Below w.heap.size w (W0.alloc (.cells #[.int .i64 s] 3))) := hb0.trans (hb01.mono hb0.size)
  have k0 : W0.cell? ⟨w.heap.size, 0, none⟩ = some (.int .i64 p) := heap_cell hbox0 0
  have hsz1 : w.heap.size + 1 ≤ (W0.alloc (.cells #[.int .i64 s] 3)).heap.size := by rw [World.size_alloc]; omega
  rw [← hW0] at hown1 hR1 hbox1 HB1 k0 hsz1
  clear hb0 hbox0 hb01 hW0 hsz0
  rcases fldE_cases p with ⟨hf, p1, p2, p3⟩ | hf
  · have HF := Lib.hid hf
    unfold dealE at hok
    rw [hf, if_neg (by omega)] at hok
    split at hok
    · omega
    · rename_i h12
      split at hok
      · omega
      · rename_i hn
        split at hok
        · omega
        · rename_i ha
          have ha' : (s :: tape).any (outF p) = false := by simpa using ha
          have h12' : nt ≤ 11 := by omega
          obtain ⟨N, rfl⟩ : ∃ N : Nat, n = N := ⟨n.toNat, by omega⟩
          rw [Int.toNat_natCast]
          have d1 : decide ((12 : Int) ≤ nt) = false := by simp; omega
          have e1 : decide ((N : Int) < 0) = false := by simp
          have e2 : decide ((12 : Int) < N) = false := by simp; omega
          have e3 : decide (p ≤ (N : Int)) = false := by simp; omega
          have hN12 : N ≤ 12 := by omega
          have hNp : (N : Int) < p := by omega
          have HA := Lib.hid ha'
          have HLc : Hid ((s :: tape).length = 1 + nt) := by show _ = _; rw [List.length_cons, hl]; omega
          have hin := inF_of_any ha'
          have HIN := Lib.hid hin
          have HT := Lib.hid (trim_ok p1 p2 p3 (f := s :: tape) (by rw [List.length_cons]; omega) hin)
          clear hf hp hl hnone p3 hn ha ha' h12 hok hin
          go_enter Try.func17, Try.ntmps17
          go_wp2_with (first | (go_at_call 37; refine (CFd.out _).mono ?_; rw [HF.out]; rintro e w' ⟨rfl, rfl⟩) | (at_builtin; go_must (refine app_all rfl (.tmp 22) (.tmp 23) _ rfl (w.heap.size + 1) 3 _ 1 8 Try.underlying24 intRow _ 1 [.int .i64 s] (by rfl) hown1.out ao nt cap (tape.map (Value.int .i64)) (by rfl) HN.out HL1.out hR1.out HI1.out (by unfold maxLen; omega) (by omega) hsz1 ?_); intro v2 w2 hown2 hgr2 hb2; have hbox2 := (hb2.block _ (Nat.lt_succ_self _)).trans hbox1.out; have k2 : w2.cell? ⟨w.heap.size, 0, none⟩ = some (.int .i64 p) := heap_cell hbox2 0; have HB2 := Lib.hid (HB1.out.trans (hb2.mono (Nat.le_succ _))); obtain ⟨a2, c2, rfl, r2, n2, q21, q22⟩ := own_data hown2) | (go_at_call 53; have X := containsFunc_cap 75 (.pointer (some ⟨w.heap.size, 0, none⟩)) (fun x W => by go_simp) (outF p) (s :: tape) a2 c2 w2 (by rw [HLc.out]; omega) r2 (fun x _ m => (secret_out x p w.heap.size (w2.drewN m) (show World.cell? _ _ = _ from k2)).mono (by rintro e w' ⟨rfl, rfl⟩; exact ⟨rfl, 0, rfl⟩)); rw [HA.out, HLc.out] at X; refine X.mono ?_; rintro e w' ⟨rfl, m, rfl⟩) | (go_at_call 76; refine (poly_Trim (s :: tape) (1 + nt) a2 c2 (w2.drewN m).heap.size _ (by omega) HLc.out q21 q22 n2 (r2.drew m) (Nat.le_refl _)).mono ?_; rintro e w3 ⟨v3, rfl, o3, hb3⟩; obtain ⟨a3, c3, rfl, r3, n3, q31, q32⟩ := own_data o3) | (at_make; refine make_len rfl _ _ 34 rfl w.heap.size 71 _ 2 16 Try.underlying34 ptRow _ _ _ _ N (by rfl) (by rfl) rfl rfl (by omega) (by unfold maxLen; omega) (by have h1 := HB2.out.size; have h2 := hb3.size; exact Nat.le_trans h1 h2) ?_; intro w4 hown4 hg4))
          have hGe : w.heap.size < w3.heap.size := by
            have h1 := (Array.getElem?_eq_some_iff.1 hbox2).1
            have h2 := hb3.size
            exact Nat.lt_of_lt_of_le h1 h2
          have hbx3 : w3.heap[w.heap.size]? = some (.cells #[.int .i64 p] 3 (0, 0)) := (hb3.block _ (Array.getElem?_eq_some_iff.1 hbox2).1).trans hbox2
          have hb34 : Below w3.heap.size w3 w4 := below_of_grown hg4 (Nat.le_refl _) (by intro k hk; cases hk)
          have HBX : Hid (w4.heap[w.heap.size]? = some (.cells #[.int .i64 p] 3 (0, 0))) := (hb34.block _ hGe).trans hbx3
          have HRF := Lib.hid (r3.below hb34)
          have HBl : Hid (Below w.heap.size w w4) := (below_drewN HB2.out m).trans ((hb3.trans (hb34.mono hb3.size)).mono HB2.out.size)
          have HOff : Hid (Off w3.heap.size a3) := fun ad had => by
            subst had
            have := (o3.lt ad.block rfl).2
            omega
          have HOW : Hid (w4.ownsRow w.heap.size 71 2 (.slice (some ⟨w3.heap.size, 0, none⟩) N N) N (cells2 (dealRow p (s :: tape) N 0))) := by
            show World.ownsRow _ _ _ _ _ _ _
            rw [← made_row p (s :: tape) N]; exact hown4
          obtain ⟨G, hG⟩ : ∃ G, w3.heap.size = G := ⟨_, rfl⟩
          rw [hG] at HOff HOW hGe ⊢
          obtain ⟨mF, hmF⟩ : ∃ m, (trim (s :: tape)).length = m := ⟨_, rfl⟩
          rw [hmF]
          have HMF := Lib.hid hmF
          clear hown1 hR1 hbox1 HB1 k0 hsz1 hgr2 hb2 hbox2 k2 hown2 r2 n2 q21 q22 X hb3 o3 r3 hown4 hg4 hbx3 hb34 hG hmF n3 q31 q32
          go_loopw [51] (fun vi wr => ∃ i : Nat, vi = .int .i64 i ∧ i ≤ N ∧ Hid (wr.ownsRow w.heap.size 71 2 (.slice (some ⟨G, 0, none⟩) N N) N (cells2 (dealRow p (s :: tape) N i))) ∧ Hid (wr.heap[w.heap.size]? = some (.cells #[.int .i64 p] 3 (0, 0))) ∧ Hid (Reads wr a3 ((trim (s :: tape)).map (Value.int .i64))) ∧ Hid (Below w.heap.size w wr)) (fun vi _ => N - (intOf vi).toNat)
          case atStart => exact ⟨0, rfl, by omega, HOW, HBX, HRF, HBl⟩
          case round =>
            obtain ⟨i, rfl, hiN, hO, hbx, hrd, hb⟩ := hrel
            by_cases hi1 : i < N
            · have kp : wr.cell? ⟨w.heap.size, 0, none⟩ = some (.int .i64 p) := heap_cell hbx.out 0
              have hw1 : IntKind.i64.wrap ((i : Int) + 1) = (i : Int) + 1 := IntWalk.i64_in _ (by omega)
              have hwf : (Lit.int .i64 ((i : Int) + 1)).wf = true := by simp [Lit.wf, IntKind.min, IntKind.max, IntKind.signed, IntKind.bits]; omega
              obtain ⟨y, hy⟩ : ∃ y, evp ((i + 1 : Nat) : Int) (s :: tape) % p = y := ⟨_, rfl⟩
              have CA := Lib.hid (poly_At p (trim (s :: tape)) ((i : Int) + 1) a3 mF c3 wr HP.out hwf HMF.out (ints_B0 hrd.out) hrd.out HT.out)
              rw [Int.emod_eq_of_lt (show (0 : Int) ≤ (i : Int) + 1 by omega) (by omega), evp_trim, show (i : Int) + 1 = ((i + 1 : Nat) : Int) by omega, hy, show ((i + 1 : Nat) : Int) = (i : Int) + 1 by omega] at CA
              have HY : Hid (pV (dealP p (s :: tape) i) = (.int .i64 ((i : Int) + 1), .int .i64 y)) := by
                show _ = _
                unfold pV dealP
                rw [hy]
                rfl
              clear hy hwf
              go_wp2_with (go_at_call 21; refine CA.out.mono ?_; rintro e w5 ⟨rfl, hb5⟩; have ho5 := own_below hO.out hb5; have g1 := ho5.cellAt (i * 2) (by omega); have g2 := ho5.cellAt (i * 2 + 1) (by omega); have h1 := ho5.frozenAt (i * 2); have h2 := ho5.frozenAt (i * 2 + 1); obtain ⟨u1, u2⟩ := deal_old p (s :: tape) hi1; rw [u1] at g1; rw [u2] at g2)
              have st1 := ho5.stored (i * 2) (.int .i64 ((i : Int) + 1))
              have st2 := st1.1.stored (i * 2 + 1) (.int .i64 y)
              have HO6 : Hid (World.ownsRow ((w5.setCell ⟨G, i * 2, none⟩ (.int .i64 ((i : Int) + 1))).setCell ⟨G, i * 2 + 1, none⟩ (.int .i64 y)) w.heap.size 71 2 (.slice (some ⟨G, 0, none⟩) N N) N (cells2 (dealRow p (s :: tape) N (i + 1)))) := by
                show World.ownsRow _ _ _ _ _ _ _
                rw [← dealRow_step, HY.out, cells2_set]; exact st2.1
              have HBX6 : Hid (((w5.setCell ⟨G, i * 2, none⟩ (.int .i64 ((i : Int) + 1))).setCell ⟨G, i * 2 + 1, none⟩ (.int .i64 y)).heap[w.heap.size]? = some (.cells #[.int .i64 p] 3 (0, 0))) := by
                show _ = _
                rw [heap_set_far _ (by omega), heap_set_far _ (by omega), hb5.block _ (Array.getElem?_eq_some_iff.1 hbx.out).1]; exact hbx.out
              have HRF6 : Hid (Reads ((w5.setCell ⟨G, i * 2, none⟩ (.int .i64 ((i : Int) + 1))).setCell ⟨G, i * 2 + 1, none⟩ (.int .i64 y)) a3 ((trim (s :: tape)).map (Value.int .i64))) := reads_off (reads_off (hrd.out.below hb5) HOff.out) HOff.out
              have HB6 : Hid (Below w.heap.size w ((w5.setCell ⟨G, i * 2, none⟩ (.int .i64 ((i : Int) + 1))).setCell ⟨G, i * 2 + 1, none⟩ (.int .i64 y))) := below_set (below_set (hb.out.trans (hb5.mono hb.out.size)) (by omega) _) (by omega) _
              clear st1 st2 ho5 g1 g2 h1 h2 hb5 kp
              go_roundw
              case rel => exact ⟨i + 1, by go_num, by omega, HO6, HBX6, HRF6, HB6⟩
              case measure => simp [intOf]; omega
            · obtain rfl : i = N := by omega
              have hR9 : Hid (Reads wr (some ⟨G, 0, none⟩) (cells2 ((dealL p (s :: tape) i).map pV))) := by
                obtain ⟨a9, k9, hv9, hr9, _⟩ := own_reads hO.out
                injection hv9 with x1 x2 x3
                show Reads _ _ _
                rw [← dealRow_full, x1]; exact hr9
              go_wp2_with fail
              go_ret2
              exact ⟨G, i, rfl, Nat.le_refl _, by omega, hR9.out, hb.out⟩
  · unfold dealE at hok
    rw [if_pos hf] at hok
    omega
end Go.Proofs.Ytiljppeamdoocaa
namespace Go.Proofs.Ytiljppeamdoocaa
open Go.RowKit Go.Maps

theorem intKeyed : Keyed Try.prog 3 := int_keyed Try.underlying3
theorem zeroInt (w : World) : (zeroValue 3).run Try.prog w = .ok (.int .i64 0) w := by kernel_rfl
abbrev D0 := DataW Unit
abbrev li (a : Int) : D0 := .lit (.int .i64 a)
theorem li_inj {a b : Int} (h : li a = li b) : a = b := by injection h with h; injection h
/-- What the map reads as when the first i points are taken in: each place once. -/
def SeenD (l : Pts) (i : Nat) (D : D0) : Prop := (∀ (j : Nat) (y : Int × Int), j < i → l[j]? = some y → D.atKey (.int .i64 y.1) (li 0) = li 1) ∧ (∀ v : Int, (∀ (j : Nat) (y : Int × Int), j < i → l[j]? = some y → y.1 ≠ v) → D.atKey (.int .i64 v) (li 0) = li 0)
theorem SeenD.start (l : Pts) : SeenD l 0 (.map []) := ⟨fun j y hj => by omega, fun v _ => rfl⟩
theorem SeenD.old {l : Pts} {i : Nat} {D : D0} (h : SeenD l i D) {x : Int} (hd : dupP l i x = true) : D.atKey (.int .i64 x) (li 0) = li 1 := by
  obtain ⟨j, y, hj, hy, rfl⟩ := dupP_iff.1 hd
  exact h.1 j y hj hy
theorem SeenD.fresh {l : Pts} {i : Nat} {D : D0} (h : SeenD l i D) {x : Int} (hd : dupP l i x = false) : D.atKey (.int .i64 x) (li 0) = li 0 :=
  h.2 x fun j y hj hy he => by
    rw [dupP_iff.2 ⟨j, y, hj, hy, he⟩] at hd
    cases hd
theorem SeenD.put {l : Pts} {i : Nat} {D : D0} (h : SeenD l i D) (hm : IsMap D) {z : Int × Int} (hz : l[i]? = some z) (hd : dupP l i z.1 = false) : SeenD l (i + 1) (D.put (.int .i64 z.1) (li 1)) := by
  have hne : ∀ (j : Nat) (y : Int × Int), j < i → l[j]? = some y → y.1 ≠ z.1 := fun j y hj hy he => by
    rw [dupP_iff.2 ⟨j, y, hj, hy, he⟩] at hd
    cases hd
  refine ⟨fun j y hj hy => ?_, fun v hv => ?_⟩
  · by_cases he : j = i
    · subst he
      rw [hz] at hy
      cases hy
      exact atKey_put_same (k := .int .i64 z.1) hm trivial _ _
    · rw [atKey_put_other (fun e => hne j y (by omega) hy (by injection e))]
      exact h.1 j y (by omega) hy
  · rw [atKey_put_other (fun e => hv i z (by omega) hz (by injection e with _ e; exact e.symm))]
    exact h.2 v fun j y hj hy => hv j y (by omega) hy
theorem wf_small {p : Int} (hp : p ≤ 997) {a : Int} (h0 : 0 ≤ a) (h1 : a < p) : (Lit.int .i64 a).wf = true := by
  simp [Lit.wf, IntKind.min, IntKind.max, IntKind.signed, IntKind.bits]
  omega
set_option maxRecDepth 100000 in
set_option maxHeartbeats 2000000 in
theorem ref_PointsErr (p : Int) (l : Pts) (n : Nat) (ao : Option Addr) (cap : Nat) (w : World) (hp : (Lit.int .i64 p).wf = true) (hl : l.length = n) (h63 : n ≤ 9223372036854775807) (hR : Hid (Reads w ao (cells2 (l.map pV)))) :
    Calls Try.prog 48 #[.int .i64 p, .slice ao n cap] w fun e w' => e = .returned (.int .i64 (ptsE p l)) ∧ Below w.heap.size w w' := by
  have HL := Lib.hid hl
  have HP := Lib.hid hp
  have hmm := @run_makeMap Try.prog
  clear hl hp
  rcases fldE_cases p with ⟨hf, p1, p2, p3⟩ | hf
  · have HF := Lib.hid hf
    clear p3
    by_cases h12 : 12 < n
    · have hE : Hid (ptsE p l = 2) := by show _ = _; unfold ptsE; rw [HF.out, if_neg (by omega), if_pos (by rw [HL.out]; exact h12)]
      have d1 : decide ((12 : Int) < n) = true := by simp; omega
      clear hf h12
      go_enter Try.func48, Try.ntmps48
      go_wp2_with (go_at_call 38; refine (ref_FieldErr p _ HP.out).mono ?_; rw [HF.out]; rintro e w' ⟨rfl, rfl⟩)
      go_ret
      exact ⟨by rw [hE.out]; rfl, Below.refl _ _⟩
    · have d1 : decide ((12 : Int) < n) = false := by simp; omega
      have hE : Hid (ptsE p l = ptsI p l (l.length - 0) 0) := by show _ = _; unfold ptsE; rw [HF.out, if_neg (by omega), if_neg (by rw [HL.out]; exact h12)]; rfl
      have hn12 : n ≤ 12 := by omega
      clear hf
      go_enter Try.func48, Try.ntmps48
      go_wp2_with (go_at_call 38; refine (ref_FieldErr p _ HP.out).mono ?_; rw [HF.out]; rintro e w' ⟨rfl, rfl⟩)
      go_loopw [20] (fun vi wr => ∃ (i : Nat) (D : D0), vi = .int .i64 i ∧ i ≤ n ∧ Hid (ptsE p l = ptsI p l (l.length - i) i) ∧ Hid (wr.ownsMap Try.prog 3 (plainElem Try.prog 3) w'.heap.size i D) ∧ Hid (SeenD l i D) ∧ Hid (Below w'.heap.size w' wr)) (fun vi _ => n - (intOf vi).toNat)
      case atStart => exact ⟨0, .map [], rfl, by omega, hE, World.ownsMap_made _ _ _ _, SeenD.start l, (Below.refl _ _).alloc (Nat.le_refl _) _⟩
      case round =>
        obtain ⟨i, D, rfl, hin, he, hown, hseen, hb⟩ := hrel
        by_cases hi : i < n
        · obtain ⟨⟨x, y⟩, hz⟩ : ∃ z, l[i]? = some z := ⟨l[i]'(by rw [HL.out]; exact hi), List.getElem?_eq_getElem _⟩
          obtain ⟨b, o, rfl, c1, c2⟩ := pair_cells (hR.out.below hb.out) hz
          dsimp only at c1 c2
          have hst := ptsI_step (p := p) hz
          have HZ := Lib.hid hz
          have hb2 : Below w'.heap.size w' (wr.alloc (.cells #[.int .i64 x, .int .i64 y] 71)) := hb.out.trans ((Below.refl _ wr).alloc hb.out.size _)
          have HB2 := Lib.hid hb2
          have hown2 := Lib.hid (hown.out.alloc (.cells #[.int .i64 x, .int .i64 y] 71))
          cases hbd : badP p (x, y) with
          | true =>
            have hE1 : Hid (ptsE p l = 1) := by show _ = _; rw [he.out, hst, if_pos hbd]
            have hbd2 : x < 0 ∨ p ≤ x ∨ y < 0 ∨ p ≤ y := by
              unfold badP at hbd
              simpa using hbd
            clear hst hbd hz hb2 hown
            rcases Int.lt_trichotomy x y with o1 | o1 | o1
            · have o2 : ¬ y < x := by omega
              have hs : decide (x < 0) = true ∨ (decide (x < 0) = false ∧ decide (p ≤ y) = true) := by
                simp only [decide_eq_true_eq, decide_eq_false_iff_not]
                omega
              clear hbd2
              rcases hs with e1 | ⟨e1, e2⟩
              all_goals
                go_wp2_with fail
                go_ret
                exact ⟨by rw [hE1.out]; rfl, HB2.out⟩
            · obtain rfl := o1
              have o2 : ¬ x < x := by omega
              have hs : decide (x < 0) = true ∨ (decide (x < 0) = false ∧ decide (p ≤ x) = true) := by
                simp only [decide_eq_true_eq, decide_eq_false_iff_not]
                omega
              clear hbd2
              rcases hs with e1 | ⟨e1, e2⟩
              all_goals
                go_wp2_with fail
                go_ret
                exact ⟨by rw [hE1.out]; rfl, HB2.out⟩
            · have o2 : ¬ x < y := by omega
              have hs : decide (y < 0) = true ∨ (decide (y < 0) = false ∧ decide (p ≤ x) = true) := by
                simp only [decide_eq_true_eq, decide_eq_false_iff_not]
                omega
              clear hbd2
              rcases hs with e1 | ⟨e1, e2⟩
              all_goals
                go_wp2_with fail
                go_ret
                exact ⟨by rw [hE1.out]; rfl, HB2.out⟩
          | false =>
            obtain ⟨x0, x1, y0, y1⟩ := badP_false hbd
            dsimp only at x0 x1 y0 y1
            have hkey : keyOf Try.prog 3 (.int .i64 x) = some (.int .i64 x) := keyOf_int_mk Try.underlying3 (wf_small p2 x0 x1)
            have hm := hown.out.isMap
            have hBlt := hown.out.lt
            have hw1 : (Lit.int .i64 1).wf = true := by decide
            have hw2 : (Lit.int .i64 2).wf = true := by decide
            cases hd : dupP l i x with
            | true =>
              have hE1 : Hid (ptsE p l = 6) := by show _ = _; rw [he.out, hst, if_neg (by rw [hbd]; simp), if_pos hd]
              have hold := Lib.hid (hseen.out.old hd)
              have hp2 := Lib.hid (atKey_put_same (D := D) (k := .int .i64 x) hm trivial (li 2) (li 0))
              clear hst hbd hz hb2 hd hm hown
              rcases Int.lt_trichotomy x y with o1 | o1 | o1
              · have o2 : ¬ y < x := by omega
                have e1 : decide (x < 0) = false := by simp; omega
                have e2 : decide (p ≤ y) = false := by simp; omega
                go_wp2_with (first | (at_lookup; refine wpList_lookup_own_int _ rfl _ _ 117 rfl 3 3 .i64 intKeyed Try.underlying117 Try.underlying3 (zeroInt _) w'.heap.size _ _ rfl hown3.out _ _ rfl hkey ?_; intro c hat hwc; obtain rfl : c = 2 := li_inj (hat.symm.trans hp2.out); clear hat hwc) | (at_lookup; refine wpList_lookup_own_int _ rfl _ _ 117 rfl 3 3 .i64 intKeyed Try.underlying117 Try.underlying3 (zeroInt _) w'.heap.size i _ rfl hown2.out _ _ rfl hkey ?_; intro c hat hwc; obtain rfl : c = 1 := li_inj (hat.symm.trans hold.out); clear hat hwc) | (at_mapUpdate; refine wpList_mapUpdate_own _ rfl _ _ _ 117 rfl 3 3 intKeyed Try.underlying117 _ w'.heap.size i _ rfl hown2.out (by unfold maxLen; omega) _ _ _ rfl rfl hkey (li 2) [] (plainElem_int Try.underlying3 hw2) ?_; intro w3 hown3' hgrow; have hown3 := Lib.hid hown3'; have HB3 := Lib.hid (HB2.out.grown hgrow HB2.out.size (fun j hj => by cases hj; exact Nat.le_refl _)); have cb1 := heap_cell (heap_grown_old hgrow (heap_alloc_new wr (.cells #[.int .i64 x, .int .i64 y] 71)) (fun e => by injection e with e; omega)) 0; clear hown3' hgrow))
                go_ret
                exact ⟨by rw [hE1.out]; rfl, HB3.out⟩
              · obtain rfl := o1
                have o2 : ¬ x < x := by omega
                have e1 : decide (x < 0) = false := by simp; omega
                have e2 : decide (p ≤ x) = false := by simp; omega
                go_wp2_with (first | (at_lookup; refine wpList_lookup_own_int _ rfl _ _ 117 rfl 3 3 .i64 intKeyed Try.underlying117 Try.underlying3 (zeroInt _) w'.heap.size _ _ rfl hown3.out _ _ rfl hkey ?_; intro c hat hwc; obtain rfl : c = 2 := li_inj (hat.symm.trans hp2.out); clear hat hwc) | (at_lookup; refine wpList_lookup_own_int _ rfl _ _ 117 rfl 3 3 .i64 intKeyed Try.underlying117 Try.underlying3 (zeroInt _) w'.heap.size i _ rfl hown2.out _ _ rfl hkey ?_; intro c hat hwc; obtain rfl : c = 1 := li_inj (hat.symm.trans hold.out); clear hat hwc) | (at_mapUpdate; refine wpList_mapUpdate_own _ rfl _ _ _ 117 rfl 3 3 intKeyed Try.underlying117 _ w'.heap.size i _ rfl hown2.out (by unfold maxLen; omega) _ _ _ rfl rfl hkey (li 2) [] (plainElem_int Try.underlying3 hw2) ?_; intro w3 hown3' hgrow; have hown3 := Lib.hid hown3'; have HB3 := Lib.hid (HB2.out.grown hgrow HB2.out.size (fun j hj => by cases hj; exact Nat.le_refl _)); have cb1 := heap_cell (heap_grown_old hgrow (heap_alloc_new wr (.cells #[.int .i64 x, .int .i64 x] 71)) (fun e => by injection e with e; omega)) 0; clear hown3' hgrow))
                go_ret
                exact ⟨by rw [hE1.out]; rfl, HB3.out⟩
              · have o2 : ¬ x < y := by omega
                have e1 : decide (y < 0) = false := by simp; omega
                have e2 : decide (p ≤ x) = false := by simp; omega
                go_wp2_with (first | (at_lookup; refine wpList_lookup_own_int _ rfl _ _ 117 rfl 3 3 .i64 intKeyed Try.underlying117 Try.underlying3 (zeroInt _) w'.heap.size _ _ rfl hown3.out _ _ rfl hkey ?_; intro c hat hwc; obtain rfl : c = 2 := li_inj (hat.symm.trans hp2.out); clear hat hwc) | (at_lookup; refine wpList_lookup_own_int _ rfl _ _ 117 rfl 3 3 .i64 intKeyed Try.underlying117 Try.underlying3 (zeroInt _) w'.heap.size i _ rfl hown2.out _ _ rfl hkey ?_; intro c hat hwc; obtain rfl : c = 1 := li_inj (hat.symm.trans hold.out); clear hat hwc) | (at_mapUpdate; refine wpList_mapUpdate_own _ rfl _ _ _ 117 rfl 3 3 intKeyed Try.underlying117 _ w'.heap.size i _ rfl hown2.out (by unfold maxLen; omega) _ _ _ rfl rfl hkey (li 2) [] (plainElem_int Try.underlying3 hw2) ?_; intro w3 hown3' hgrow; have hown3 := Lib.hid hown3'; have HB3 := Lib.hid (HB2.out.grown hgrow HB2.out.size (fun j hj => by cases hj; exact Nat.le_refl _)); have cb1 := heap_cell (heap_grown_old hgrow (heap_alloc_new wr (.cells #[.int .i64 x, .int .i64 y] 71)) (fun e => by injection e with e; omega)) 0; clear hown3' hgrow))
                go_ret
                exact ⟨by rw [hE1.out]; rfl, HB3.out⟩
            | false =>
              have hE1 : Hid (ptsE p l = ptsI p l (l.length - (i + 1)) (i + 1)) := by show _ = _; rw [he.out, hst, if_neg (by rw [hbd]; simp), if_neg (by rw [hd]; simp)]
              have hold := Lib.hid (hseen.out.fresh hd)
              have hnew := Lib.hid (hseen.out.put hm hz hd)
              have hp2 := Lib.hid (atKey_put_same (D := D) (k := .int .i64 x) hm trivial (li 1) (li 0))
              clear hst hbd hz hb2 hd hm hown
              rcases Int.lt_trichotomy x y with o1 | o1 | o1
              · have o2 : ¬ y < x := by omega
                have e1 : decide (x < 0) = false := by simp; omega
                have e2 : decide (p ≤ y) = false := by simp; omega
                go_wp2_with (first | (at_lookup; refine wpList_lookup_own_int _ rfl _ _ 117 rfl 3 3 .i64 intKeyed Try.underlying117 Try.underlying3 (zeroInt _) w'.heap.size _ _ rfl hown3.out _ _ rfl hkey ?_; intro c hat hwc; obtain rfl : c = 1 := li_inj (hat.symm.trans hp2.out); clear hat hwc) | (at_lookup; refine wpList_lookup_own_int _ rfl _ _ 117 rfl 3 3 .i64 intKeyed Try.underlying117 Try.underlying3 (zeroInt _) w'.heap.size i _ rfl hown2.out _ _ rfl hkey ?_; intro c hat hwc; obtain rfl : c = 0 := li_inj (hat.symm.trans hold.out); clear hat hwc) | (at_mapUpdate; refine wpList_mapUpdate_own _ rfl _ _ _ 117 rfl 3 3 intKeyed Try.underlying117 _ w'.heap.size i _ rfl hown2.out (by unfold maxLen; omega) _ _ _ rfl rfl hkey (li 1) [] (plainElem_int Try.underlying3 hw1) ?_; intro w3 hown3' hgrow; have hown3 := Lib.hid hown3'; have HB3 := Lib.hid (HB2.out.grown hgrow HB2.out.size (fun j hj => by cases hj; exact Nat.le_refl _)); have cb1 := heap_cell (heap_grown_old hgrow (heap_alloc_new wr (.cells #[.int .i64 x, .int .i64 y] 71)) (fun e => by injection e with e; omega)) 0; clear hown3' hgrow))
                go_roundw
                case rel => exact ⟨i + 1, _, by go_num, by omega, hE1, hown3, hnew, HB3⟩
                case measure => simp [intOf]; omega
              · obtain rfl := o1
                have o2 : ¬ x < x := by omega
                have e1 : decide (x < 0) = false := by simp; omega
                have e2 : decide (p ≤ x) = false := by simp; omega
                go_wp2_with (first | (at_lookup; refine wpList_lookup_own_int _ rfl _ _ 117 rfl 3 3 .i64 intKeyed Try.underlying117 Try.underlying3 (zeroInt _) w'.heap.size _ _ rfl hown3.out _ _ rfl hkey ?_; intro c hat hwc; obtain rfl : c = 1 := li_inj (hat.symm.trans hp2.out); clear hat hwc) | (at_lookup; refine wpList_lookup_own_int _ rfl _ _ 117 rfl 3 3 .i64 intKeyed Try.underlying117 Try.underlying3 (zeroInt _) w'.heap.size i _ rfl hown2.out _ _ rfl hkey ?_; intro c hat hwc; obtain rfl : c = 0 := li_inj (hat.symm.trans hold.out); clear hat hwc) | (at_mapUpdate; refine wpList_mapUpdate_own _ rfl _ _ _ 117 rfl 3 3 intKeyed Try.underlying117 _ w'.heap.size i _ rfl hown2.out (by unfold maxLen; omega) _ _ _ rfl rfl hkey (li 1) [] (plainElem_int Try.underlying3 hw1) ?_; intro w3 hown3' hgrow; have hown3 := Lib.hid hown3'; have HB3 := Lib.hid (HB2.out.grown hgrow HB2.out.size (fun j hj => by cases hj; exact Nat.le_refl _)); have cb1 := heap_cell (heap_grown_old hgrow (heap_alloc_new wr (.cells #[.int .i64 x, .int .i64 x] 71)) (fun e => by injection e with e; omega)) 0; clear hown3' hgrow))
                go_roundw
                case rel => exact ⟨i + 1, _, by go_num, by omega, hE1, hown3, hnew, HB3⟩
                case measure => simp [intOf]; omega
              · have o2 : ¬ x < y := by omega
                have e1 : decide (y < 0) = false := by simp; omega
                have e2 : decide (p ≤ x) = false := by simp; omega
                go_wp2_with (first | (at_lookup; refine wpList_lookup_own_int _ rfl _ _ 117 rfl 3 3 .i64 intKeyed Try.underlying117 Try.underlying3 (zeroInt _) w'.heap.size _ _ rfl hown3.out _ _ rfl hkey ?_; intro c hat hwc; obtain rfl : c = 1 := li_inj (hat.symm.trans hp2.out); clear hat hwc) | (at_lookup; refine wpList_lookup_own_int _ rfl _ _ 117 rfl 3 3 .i64 intKeyed Try.underlying117 Try.underlying3 (zeroInt _) w'.heap.size i _ rfl hown2.out _ _ rfl hkey ?_; intro c hat hwc; obtain rfl : c = 0 := li_inj (hat.symm.trans hold.out); clear hat hwc) | (at_mapUpdate; refine wpList_mapUpdate_own _ rfl _ _ _ 117 rfl 3 3 intKeyed Try.underlying117 _ w'.heap.size i _ rfl hown2.out (by unfold maxLen; omega) _ _ _ rfl rfl hkey (li 1) [] (plainElem_int Try.underlying3 hw1) ?_; intro w3 hown3' hgrow; have hown3 := Lib.hid hown3'; have HB3 := Lib.hid (HB2.out.grown hgrow HB2.out.size (fun j hj => by cases hj; exact Nat.le_refl _)); have cb1 := heap_cell (heap_grown_old hgrow (heap_alloc_new wr (.cells #[.int .i64 x, .int .i64 y] 71)) (fun e => by injection e with e; omega)) 0; clear hown3' hgrow))
                go_roundw
                case rel => exact ⟨i + 1, _, by go_num, by omega, hE1, hown3, hnew, HB3⟩
                case measure => simp [intOf]; omega
        · have hE1 : Hid (ptsE p l = 0) := by
            show _ = _
            rw [he.out, show i = l.length by rw [HL.out]; omega]; exact ptsI_end p l
          go_wp2_with fail
          go_ret
          exact ⟨by rw [hE1.out]; rfl, hb.out⟩
  · have HF := Lib.hid hf
    have hE : Hid (ptsE p l = 1) := by show _ = _; unfold ptsE; rw [HF.out, if_pos rfl]
    clear hf
    go_enter Try.func48, Try.ntmps48
    go_wp2_with (go_at_call 38; refine (ref_FieldErr p _ HP.out).mono ?_; rw [HF.out]; rintro e w' ⟨rfl, rfl⟩)
    go_ret
    exact ⟨by rw [hE.out]; rfl, Below.refl _ _⟩
end Go.Proofs.Ytiljppeamdoocaa
namespace Go.Proofs.Ytiljppeamdoocaa
open Go.RowKit Go.Lib

set_option maxRecDepth 100000 in
set_option maxHeartbeats 2000000 in
theorem grow_nil (n base : Nat) (w : World) (h1 : 1 ≤ n) (hn : n ≤ 1000000) (hb : base ≤ w.heap.size) :
    Calls Try.prog 107 #[.slice none 0 0, .int .i64 n] w fun e w' => ∃ v, e = .returned v ∧ w'.ownsRow base 3 1 v 0 [] ∧ Below base w w' := by
  obtain ⟨i, hi, hz, hsize, hby, hzs, hsz⟩ := intRow
  have hold : (Builtin.firstCells i.size 0 (.slice none 0 0)).run Try.prog w.drew = .ok #[] w.drew := run_firstCells_none w.drew i.size 0 0 0
  have hrz : ∀ ty, (Builtin.append_ #[24, 3] ty #[.slice none 0 0, .int .i64 n]).run Try.prog w =
      .ok (.slice (some ⟨w.heap.size, 0, none⟩) (0 + n) (grownCap w (0 + n) 0 3)) (w.drew.alloc (.cells (#[] ++ Builtin.zeroCells (Value.int .i64 0).cells n ++ Builtin.zeroCells (Value.int .i64 0).cells (grownCap w (0 + n) 0 3 - (0 + n))) 3)) := fun ty =>
    Lib.run_append_grow_zeros w 24 3 ty 3 i (.int .i64 0) .i64 .i64 Try.underlying24 Try.underlying3 hi hz none 0 0 [] hold n (by omega) (by omega) (by omega) (by omega) (by rw [hby]; omega)
      (growslice_fits (by omega) (by rw [hby]; omega))
  have hg1 := grownCap_ge w (0 + n) 0 3
  have hg2 := grownCap_le_maxLen w (0 + n) 0 3 (by unfold maxLen; omega)
  obtain ⟨G, hG⟩ : ∃ G, grownCap w (0 + n) 0 3 = G := ⟨_, rfl⟩
  rw [hG] at hg1 hg2
  rw [Nat.zero_add] at hG
  obtain ⟨cs, hcs⟩ : ∃ cs, (#[] ++ Builtin.zeroCells (Value.int .i64 0).cells n ++ Builtin.zeroCells (Value.int .i64 0).cells (G - n)) = cs := ⟨_, rfl⟩
  have hcsz : cs.size = G := by
    rw [← hcs]
    simp [Builtin.zeroCells, Value.cells]
    omega
  have hrz2 : ∀ ty, (Builtin.append_ #[24, 3] ty #[.slice none 0 0, .int .i64 n]).run Try.prog w = .ok (.slice (some ⟨w.heap.size, 0, none⟩) n G) (w.drew.alloc (.cells cs 3)) := fun ty => by
    have h := hrz ty
    rw [Nat.zero_add, hG, hcs] at h
    exact h
  clear hrz
  have n0 : ¬ ((n : Int) < 0) := by omega
  have n1 : decide ((0 : Int) < n) = true := by simp; omega
  have wn : IntKind.i64.wrap (n : Int) = n := IntWalk.i64_in _ (by omega)
  have hG63 : G ≤ 9223372036854775807 := by unfold maxLen at hg2; omega
  have hown : Hid ((w.drew.alloc (.cells cs 3)).ownsRow base 3 1 (.slice (some ⟨w.heap.size, 0, none⟩) 0 G) 0 []) :=
    ⟨by simp, .inr ⟨w.heap.size, G, cs, rfl, hb, heap_alloc_new w.drew _, Nat.zero_le _, by unfold maxLen; omega, by omega, by simp⟩⟩
  have hbel : Hid (Below base w (w.drew.alloc (.cells cs 3))) := (below_drewN (Below.refl base w) 1).alloc hb _
  clear hold hcs hG hi hz hsize hby hzs hcsz
  go_enter Try.func107, Try.ntmps107
  go_wp2_with (at_builtin; refine Lib.wpList_append_run _ rfl _ _ _ _ rfl _ _ rfl rfl _ _ (hrz2 _) ?_)
  all_goals
    go_ret
    exact ⟨_, rfl, hown.out, hbel.out⟩
def parts (u v : List Int) (i : Nat) : List Int := if i = 0 then [] else if i = 1 then u else u ++ v
set_option maxRecDepth 100000 in
set_option maxHeartbeats 2000000 in
theorem concat_two (u v : List Int) (lu lv : Nat) (a b : Option Addr) (ca cb B : Nat) (w : World) (hlu : u.length = lu) (hlv : v.length = lv) (h1 : 1 ≤ lu) (h2 : lu + lv ≤ 1000000) (hna : a = none → lu = 0 ∧ ca = 0) (hnb : b = none → lv = 0 ∧ cb = 0)
    (hc0 : w.cell? ⟨B, 0, none⟩ = some (.slice a lu ca)) (hc1 : w.cell? ⟨B, 1, none⟩ = some (.slice b lv cb)) (hu : Hid (Reads w a (u.map (Value.int .i64)))) (hv : Hid (Reads w b (v.map (Value.int .i64)))) :
    Calls Try.prog 55 #[.slice (some ⟨B, 0, none⟩) 2 2] w (ListPost w.heap.size (u ++ v) w) := by
  have HLU := Lib.hid hlu
  have HLV := Lib.hid hlv
  have HNA := Lib.hid hna
  have HNB := Lib.hid hnb
  have HU1 : Hid ((u.map (Value.int .i64)).length = lu * 1) := by show _ = _; rw [List.length_map]; omega
  have HV1 : Hid ((v.map (Value.int .i64)).length = lv * 1) := by show _ = _; rw [List.length_map]; omega
  have HC0 := Lib.hid hc0
  have HC1 := Lib.hid hc1
  clear hlu hlv hna hnb
  have CG := Lib.hid (fun w' (hb : w.heap.size ≤ w'.heap.size) => grow_nil (lu + lv) w.heap.size w' (by omega) h2 hb)
  go_enter Try.func55, Try.ntmps55
  go_wp2_with fail
  go_loop [3, 11] (fun vs vi => ∃ i s : Nat, vi = .int .i64 i ∧ i ≤ 2 ∧ vs = .int .i64 s ∧ s ≤ 1000000 ∧ Hid (s = if i = 0 then 0 else if i = 1 then lu else lu + lv)) (fun _ vi => 2 - (intOf vi).toNat)
  case atStart => exact ⟨0, 0, rfl, by omega, rfl, by omega, rfl⟩
  case round =>
    obtain ⟨i, s, rfl, hi, rfl, hs, hse⟩ := hrel
    rcases (by omega : i = 0 ∨ i = 1 ∨ i = 2) with rfl | rfl | rfl
    · have hs0 : s = 0 := hse.out
      subst hs0
      have w1 : IntKind.i64.wrap (lu : Int) = lu := IntWalk.i64_in _ (by omega)
      have n1 : ¬ ((lu : Int) < 0) := by omega
      go_wp2_with fail
      go_round
      case rel => exact ⟨1, lu, by simp, by omega, by simp, by omega, rfl⟩
      case measure => simp [intOf]
    · have hs0 : s = lu := hse.out
      subst hs0
      have w1 : IntKind.i64.wrap ((s : Int) + lv) = (s : Int) + lv := IntWalk.i64_in _ (by omega)
      have n1 : ¬ ((s : Int) + lv < 0) := by omega
      go_wp2_with fail
      go_round
      case rel => exact ⟨2, s + lv, by simp, by omega, by simp, by omega, rfl⟩
      case measure => simp [intOf]
    · have hs0 : s = lu + lv := hse.out
      clear hse
      subst hs0
      go_wp2_with (go_at_call 107; refine (CG.out _ (Nat.le_refl _)).mono ?_; rintro e w1 ⟨v0, rfl, ho, hb⟩)
      have HO := Lib.hid ho
      have HB := Lib.hid hb
      clear ho hb
      go_loopw [6, 27] (fun vv vi wr => ∃ i : Nat, vi = .int .i64 i ∧ i ≤ 2 ∧ Hid (wr.ownsRow w.heap.size 3 1 vv (parts u v i).length ((parts u v i).map (Value.int .i64))) ∧ Hid (Below w.heap.size w wr)) (fun _ vi _ => 2 - (intOf vi).toNat)
      case atStart => exact ⟨0, rfl, by omega, HO, HB⟩
      case round =>
        obtain ⟨i, rfl, hi, hO, hB⟩ := hrel
        have k0 := (hB.out.cell (World.block_lt_of_cell? w _ HC0.out)).trans HC0.out
        have k1 := (hB.out.cell (World.block_lt_of_cell? w _ HC1.out)).trans HC1.out
        have hRu := Lib.hid (hu.out.below hB.out)
        have hRv := Lib.hid (hv.out.below hB.out)
        rcases (by omega : i = 0 ∨ i = 1 ∨ i = 2) with rfl | rfl | rfl
        · have hO' : Hid (wr.ownsRow w.heap.size 3 1 u6 0 []) := hO.out
          go_wp2_with (at_builtin; go_must (refine app_all rfl (.tmp 31) (.tmp 32) _ rfl w.heap.size 3 _ 1 8 Try.underlying24 intRow u6 0 [] (by rfl) hO'.out a lu ca (u.map (Value.int .i64)) (by rfl) HNA.out HU1.out hRu.out (ints_one .i64 u) (by unfold maxLen; omega) (by omega) hB.out.size ?_); intro v2 w2 hown2 hgr2 hb2)
          have HO2 : Hid (w2.ownsRow w.heap.size 3 1 v2 (parts u v 1).length ((parts u v 1).map (Value.int .i64))) := by
            show World.ownsRow _ _ _ _ _ _ _
            have e : parts u v 1 = u := rfl
            rw [e, HLU.out]
            simpa using hown2
          have HB2 := Lib.hid (hB.out.trans hb2)
          clear hown2 hgr2 hb2
          go_roundw
          case rel => exact ⟨1, by simp, by omega, HO2, HB2⟩
          case measure => simp [intOf]
        · have hO' : Hid (wr.ownsRow w.heap.size 3 1 u6 lu (u.map (Value.int .i64))) := by
            have h := hO.out
            have e : parts u v 1 = u := rfl
            rw [e, HLU.out] at h
            exact h
          go_wp2_with (at_builtin; go_must (refine app_all rfl (.tmp 31) (.tmp 32) _ rfl w.heap.size 3 _ 1 8 Try.underlying24 intRow u6 lu (u.map (Value.int .i64)) (by rfl) hO'.out b lv cb (v.map (Value.int .i64)) (by rfl) HNB.out HV1.out hRv.out (ints_one .i64 v) (by unfold maxLen; omega) (by omega) hB.out.size ?_); intro v2 w2 hown2 hgr2 hb2)
          have HO2 : Hid (w2.ownsRow w.heap.size 3 1 v2 (parts u v 2).length ((parts u v 2).map (Value.int .i64))) := by
            show World.ownsRow _ _ _ _ _ _ _
            have e : parts u v 2 = u ++ v := rfl
            rw [e, List.length_append, HLU.out, HLV.out, List.map_append]
            exact hown2
          have HB2 := Lib.hid (hB.out.trans hb2)
          clear hown2 hgr2 hb2
          go_roundw
          case rel => exact ⟨2, by simp, by omega, HO2, HB2⟩
          case measure => simp [intOf]
        · have hfin : Hid (ListPost w.heap.size (u ++ v) w (.returned u6) wr) := ⟨_, rfl, hO.out, hB.out⟩
          go_wp2_with fail
          go_ret
          exact hfin.out
end Go.Proofs.Ytiljppeamdoocaa
namespace Go.Proofs.Ytiljppeamdoocaa
open Go.RowKit

set_option maxRecDepth 100000 in
set_option maxHeartbeats 2000000 in
theorem equal_pt (zs : Pts) (n : Nat) (ao bo : Option Addr) (ca cb : Nat) (w : World) (hl : zs.length = n) (h63 : n ≤ 9223372036854775807) (hX : Hid (Reads w ao (cells2 (zs.map pV)))) (hY : Hid (Reads w bo (cells2 (zs.map pV)))) :
    Calls Try.prog 108 #[.slice ao n ca, .slice bo n cb] w fun e w' => e = .returned (.bool true) ∧ ∃ m, w' = w.drewN m := by
  have HL := Lib.hid hl
  clear hl
  go_enter Try.func108, Try.ntmps108
  go_wp2_with fail
  go_loopw [13] (fun vi wr => ∃ (i m : Nat), vi = .int .i64 i ∧ i ≤ n ∧ wr = w.drewN m) (fun vi _ => n - (intOf vi).toNat)
  case atStart => exact ⟨0, 0, rfl, by omega, rfl⟩
  case round =>
    obtain ⟨i, m, rfl, hi, rfl⟩ := hrel
    by_cases hin : i < n
    · obtain ⟨z, hz⟩ : ∃ z, zs[i]? = some z := ⟨zs[i]'(by rw [HL.out]; exact hin), List.getElem?_eq_getElem _⟩
      obtain ⟨b1, o1, rfl, c1, c2⟩ := pair_cells hX.out hz
      obtain ⟨b2, o2, rfl, c3, c4⟩ := pair_cells hY.out hz
      clear hz
      go_wp2_with fail
      go_region
      go_wp2_with fail
      go_roundw
      case rel => exact ⟨i + 1, m + 1, by go_num, by omega, by rw [← World.drewN_drewN]⟩
      case measure => simp [intOf]; omega
    · obtain rfl : i = n := by omega
      go_wp2_with fail
      go_ret
      exact ⟨rfl, m, rfl⟩
theorem same_pt (zs : Pts) (n : Nat) (ao bo : Option Addr) (ca cb : Nat) (w : World) (hl : zs.length = n) (h63 : n ≤ 9223372036854775807) (hX : Hid (Reads w ao (cells2 (zs.map pV)))) (hY : Hid (Reads w bo (cells2 (zs.map pV)))) :
    Calls Try.prog 56 #[.slice ao n ca, .slice bo n cb] w fun e w' => e = .returned (.bool true) ∧ ∃ m, w' = w.drewN m := by
  have C := Lib.hid (equal_pt zs n ao bo ca cb w hl h63 hX hY)
  clear hl
  go_enter Try.func56, Try.ntmps56
  go_wp2_with (go_at_call 108; refine C.out.mono ?_; rintro e w' ⟨rfl, n, rfl⟩)
  go_ret
  exact ⟨rfl, n, rfl⟩
end Go.Proofs.Ytiljppeamdoocaa
