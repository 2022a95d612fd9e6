/- wholeref.Unlike. -/
import Derived.Test.YtgdcmebhopjfaaaGrid1
import Derived.Test.YtgdcmebhopjfaaaCompB
namespace Go.Proofs.Ytgdcmebhopjfaaa
open Go.RowKit

theorem keeps_nat (n : Nat) (f : Nat → Nat) (j : Nat) (hj : j < n) : Lib.keeps ((rowN n f).map fun x : Nat => (x : Int)).toArray j = true ↔ (j = 0 ∨ f j ≠ f (j - 1)) := by
  have get : ∀ i, i < n → ((rowN n f).map fun x : Nat => (x : Int)).toArray[i]! = (f i : Int) := by
    intro i hi
    rw [getElem!_pos _ i (by simp [rowN, hi])]
    simp [rowN]
  unfold Lib.keeps
  rw [decide_eq_true_eq, get j hj]
  by_cases h0 : j = 0
  · simp [h0]
  · rw [get (j - 1) (by omega)]
    simp only [h0, false_or]
    constructor
    · intro h e; exact h (by rw [e])
    · intro h e; exact h (Int.ofNat.inj e)
theorem cmpL_nodup (n : Nat) (f : Nat → Nat) (hs : SrtN f n) : (cmpL ((rowN n f).map fun x : Nat => (x : Int))).length = n ↔ (rowN n f).Nodup := by
  have hl : ((rowN n f).map fun x : Nat => (x : Int)).length = n := by simp [rowN]
  have h1 : (cmpL ((rowN n f).map fun x : Nat => (x : Int))).length = n ↔ ∀ j, j < n → (j = 0 ∨ f j ≠ f (j - 1)) := by
    unfold cmpL Lib.compactUpTo
    rw [List.length_map, hl]
    have h2 := List.length_filter_eq_length_iff (p := Lib.keeps ((rowN n f).map fun x : Nat => (x : Int)).toArray) (l := List.range n)
    rw [List.length_range] at h2
    rw [h2]
    constructor
    · intro h j hj; exact (keeps_nat n f j hj).1 (h j (List.mem_range.2 hj))
    · intro h j hj; exact (keeps_nat n f j (List.mem_range.1 hj)).2 (h j (List.mem_range.1 hj))
  rw [h1]
  have hnd : (rowN n f).Nodup ↔ ∀ p q, p < q → q < n → f p ≠ f q := by
    unfold rowN
    rw [List.Nodup, List.pairwise_map]
    constructor
    · intro h p q hp hq
      have := List.pairwise_iff_getElem.1 h p q (by simp; omega) (by simp; omega) hp
      simpa using this
    · intro h
      rw [List.pairwise_iff_getElem]
      intro p q hp hq hpq
      simp at hp hq ⊢
      exact h p q hpq hq
  rw [hnd]
  constructor
  · intro h p q hpq hq
    have h3 := h q hq
    have h4 : f p ≤ f (q - 1) := by
      by_cases e : p = q - 1
      · rw [e]; exact Nat.le_refl _
      · exact hs p (q - 1) (by omega) (by omega)
    have h5 := hs (q - 1) q (by omega) hq
    omega
  · intro h j hj
    by_cases h0 : j = 0
    · exact .inl h0
    · exact .inr fun e => h (j - 1) j (by omega) hj e.symm
theorem rowN_getD (l : List Nat) (n : Nat) (h : l.length = n) : rowN n (fun j => l.getD j 0) = l := by
  subst h
  apply List.ext_getElem?
  intro j
  by_cases hj : j < l.length
  · rw [rowN_get _ hj, List.getD_eq_getElem?_getD, List.getElem?_eq_getElem hj]; rfl
  · rw [List.getElem?_eq_none (by rw [rowN_len]; omega), List.getElem?_eq_none (by omega)]
theorem rowF_cellu8 (n : Nat) (f : Nat → Nat) : rowF n (cellu8 f) = ((rowN n f).map fun x : Nat => (x : Int)).map (Value.int .u8) := by
  unfold rowF rowN cellu8
  rw [List.map_map, List.map_map]
  rfl
set_option maxRecDepth 20000 in
set_option maxHeartbeats 1000000 in
theorem ref_Unlike (h : Hd) (w : World) (hh : RowOk w h) :
    Calls Try.prog 49 #[h.v] w (ErrPost (unE h.Z) w) := by
  obtain ⟨A, C, Z⟩ := h
  obtain ⟨n, hn⟩ : ∃ n, Z.length = n := ⟨_, rfl⟩
  have m1 := hh.cap
  have m2 := hh.max
  have m3 := hh.none
  simp only at m1 m2 m3
  have HR : Hid (Reads w A (u8s Z)) := hh.reads
  rw [hn] at m1 m3
  unfold Hd.v
  simp only
  rw [hn]
  have HN := Lib.hid hn
  clear hh
  by_cases h0 : n = 0
  · have hE : Hid (unE Z = 2) := by show _ = _; unfold unE; rw [if_pos (by omega)]
    subst h0
    clear m3
    go_enter Try.func49, Try.ntmps49
    go_wp2_with fail
    go_ret
    exact ⟨by rw [hE.out]; rfl, Below.refl _ _⟩
  · have hb0 : ((n : Int) == 0) = false := by simp; omega
    by_cases h12 : 12 < n
    · have hE : Hid (unE Z = 2) := by show _ = _; unfold unE; rw [if_pos (by omega)]
      have hn2 : (12 : Int) < (n : Int) := by omega
      clear m3
      go_enter Try.func49, Try.ntmps49
      go_wp2_with fail
      go_ret
      exact ⟨by rw [hE.out]; rfl, Below.refl _ _⟩
    · have hE : Hid (unE Z = if Z.Nodup then 0 else 6) := by show _ = _; unfold unE; rw [if_neg (by omega)]
      have hn2 : ¬ (12 : Int) < (n : Int) := by omega
      have CC := Lib.hid (clone_u8 n (u8s Z) A C w.heap.size w (by omega) (by rw [u8s_len]; exact hn) m3 HR (Lib.hid (u8s_one Z)) (Nat.le_refl _))
      obtain ⟨f, hf⟩ : ∃ f : Nat → Nat, (fun j => Z.getD j 0) = f := ⟨_, rfl⟩
      have hfZ : Hid (rowN n f = Z) := by show _ = _; rw [← hf]; exact rowN_getD Z n hn
      have hU : Hid (u8s Z = rowF n (cellu8 f)) := by show _ = _; rw [rowF_cellu8, ← u8s_ints, hfZ.out]
      clear m3 hf hn
      go_enter Try.func49, Try.ntmps49
      go_wp2_with (first
        | (go_at_call 45; refine CC.out.mono ?_; rintro e w1 ⟨v, rfl, hown, hb1⟩; rw [hU.out] at hown; obtain ⟨g, cp, rfl, hO⟩ := own_formK hown (fun e => by have := congrArg List.length e; rw [rowF_length] at this; simp at this; omega) rfl)
        | (go_at_call 118; refine (sort_u8 n f w.heap.size g cp w1 (by omega) hO hb1.size).mono ?_; rintro e w2 ⟨rfl, f', hO2, hp, hs, hb2⟩)
        | (go_at_call 119; refine (compact_u8 ((rowN n f').map fun x : Nat => (x : Int)) n w.heap.size g cp w2 (by rw [← rowF_cellu8]; exact hO2)).mono ?_; rintro e w3 ⟨rfl, hO3, hg3⟩; have hcl := cmpL_len ((rowN n f').map fun x : Nat => (x : Int)); rw [List.length_map, rowN_len] at hcl; have hcn := cmpL_nodup n f' hs; obtain ⟨m, hm⟩ : ∃ m, (cmpL ((rowN n f').map fun x : Nat => (x : Int))).length = m := ⟨_, rfl⟩; rw [hm] at hcl hcn ⊢; have hb3 := (hb1.trans hb2).grown hg3 (hb1.trans hb2).size (fun k hk => by cases hk; exact hO2.lt.1); have hcn2 : m = n ↔ Z.Nodup := hcn.trans (hp.nodup_iff.trans (by rw [hfZ.out])); have HC := Lib.hid hcn2; clear hcn hcn2 hm hO3 hO2 hg3 hown hO hp hs)
        | fail)
      all_goals
        go_ret
        refine ⟨?_, hb3⟩
        rw [hE.out]
        first
          | (rw [if_neg fun h => by have := HC.out.2 h; omega]; rfl)
          | (rw [if_pos (HC.out.1 (by omega))]; rfl)
end Go.Proofs.Ytgdcmebhopjfaaa
