/- TopHamming in plain words: the sums of Hamming words. -/
import Derived.Test.YtmeffbooabionaaHmM47
import Derived.Test.YtmeffbooabionaaHmM49
set_option linter.unusedVariables false
set_option linter.unusedSimpArgs false
namespace Go.Proofs.Ytmeffbooabionaa

theorem hput_all256 : ∀ d : Fin 256, hput d.val < 4096 := by decide +kernel
def okHam (x : Nat) : Bool := !(hsum x == 0) || x == 0 || decide (3 ≤ ones16 x)
theorem ham_all : ∀ x : Fin 64, ∀ y : Fin 64, okHam (64 * x.val + y.val) = true := by decide +kernel
theorem ham_ok {x : Nat} (h : x < 4096) (hs : hsum x = 0) (h0 : x ≠ 0) : 3 ≤ ones16 x := by
  have := ham_all ⟨x / 64, by omega⟩ ⟨x % 64, by omega⟩
  have e : 64 * (x / 64) + x % 64 = x := by omega
  rw [show 64 * (⟨x / 64, by omega⟩ : Fin 64).val + (⟨x % 64, by omega⟩ : Fin 64).val = x from e] at this
  unfold okHam at this
  rw [hs] at this
  simp [h0] at this
  exact this
theorem hsum_xor (x y : Nat) : hsum (x ^^^ y) = hsum x ^^^ hsum y := hsumN_xor 15 x y
theorem ham_words {l : List Nat} (h : ∀ x ∈ l, hsum x = 0) : ∀ x ∈ wordsL l, hsum x = 0 := fun x hx =>
  allX_min (S := fun x => hsum x = 0) (by decide) (fun a b ha hb => by rw [hsum_xor, ha, hb]; rfl) h x ((mem_wordsL l x).1 hx)
theorem allX_nodup : ∀ (B : List Nat), Red B → (allX B).Nodup := by
  intro B
  refine snoc_ind (P := fun B => Red B → (allX B).Nodup) (fun _ => by simp [allX_nil]) (fun l g ih h => ?_) B
  have hl : Red l := ⟨fun b hb => h.pos b (by simp [hb]), (List.pairwise_append.1 h.apart).1⟩
  have hg := h.pos g (by simp)
  have hgl : ∀ b ∈ l, g.testBit (hiN b) = false := fun b hb => ((List.pairwise_append.1 h.apart).2.2 b hb g (by simp)).2
  have hni : g ∉ allX l := fun hm => by have := red_zero l hl g hm hgl; omega
  rw [allX_append, List.nodup_append]
  refine ⟨ih hl, ?_, ?_⟩
  · unfold List.Nodup
    rw [List.pairwise_map]
    refine (ih hl).imp fun {a b} hab e => hab ?_
    have := congrArg (fun z => z ^^^ g) e
    simpa [Nat.xor_assoc] using this
  · intro a ha b hb e
    obtain ⟨y, hy, rfl⟩ := List.mem_map.1 hb
    subst e
    have := allX_xor l _ _ hy ha
    rw [← Nat.xor_assoc, Nat.xor_self, Nat.zero_xor] at this
    exact hni this
theorem same_len {A C : List Nat} (hA : A.Nodup) (hC : C.Nodup) (h : ∀ x, x ∈ A ↔ x ∈ C) : A.length = C.length := by
  have dec : ∀ {A : List Nat}, A.Nodup → ((srtU A).reverse).Pairwise (· > ·) := by
    intro A hA
    rw [List.pairwise_reverse]
    have h1 := srtU_sorted A
    have h2 : (srtU A).Nodup := (srtU_perm A).nodup_iff.2 hA
    unfold List.Nodup at h2
    rw [List.pairwise_iff_forall_sublist] at h1 h2 ⊢
    intro a b hab
    have := h1 hab
    have := h2 hab
    show b > a
    omega
  have e := dec_unique _ _ (dec hA) (dec hC) fun x => by
    rw [List.mem_reverse, List.mem_reverse, (srtU_perm A).mem_iff, (srtU_perm C).mem_iff]; exact h x
  have := congrArg List.length e
  simpa [srtU_len] using this
theorem words_pow {l : List Nat} (hl : ∀ g ∈ l, g < 65536) : (wordsL l).length = 2 ^ (baseL l).length := by
  have hB := baseR_red hl
  have e : (baseL l).length = (baseR l).length := by unfold baseL; rw [List.length_reverse, srtU_len]
  rw [e, ← allX_len (baseR l)]
  exact same_len (strict_nodup (wordsL_strict l)) (allX_nodup _ hB) fun x => by rw [mem_wordsL, baseR_span hl]
/-- T5. -/
theorem ham_far {l : List Nat} (hl : ∀ g ∈ l, g < 2 ^ 12) (hh : ∀ g ∈ l, hsum g = 0) : ((farN 12 (wordsL l) 1 13).2 = 4 ∧ (baseL l).length = 0) ∨ ((farN 12 (wordsL l) 1 13).2 = 0 ∧ 3 ≤ (farN 12 (wordsL l) 1 13).1) := by
  have h16 : ∀ g ∈ l, g < 65536 := fun g hg => Nat.lt_of_lt_of_le (hl g hg) (by decide)
  have hp := words_pow h16
  by_cases h1 : (baseL l).length = 0
  · left
    rw [h1] at hp
    have h0 : ∀ k, 1 ≤ k → wtN (wordsL l) k = 0 := by
      have hz : 0 ∈ wordsL l := (mem_wordsL l 0).2 (allX_zero l)
      obtain ⟨x, hx⟩ := List.length_eq_one_iff.1 hp
      rw [hx] at hz ⊢
      simp at hz
      subst hz
      intro k hk
      unfold wtN
      have : (ones16 0 == k) = false := by
        have e : ones16 0 = 0 := by decide
        rw [e]; simp; omega
      simp [this]
    have key : ∀ q k, 1 ≤ k → farN 12 (wordsL l) k q = (0, 4) := by
      intro q
      induction q with
      | zero => intro k _; rfl
      | succ q ih =>
        intro k hk
        by_cases h : k ≤ 12
        · rw [far_next h (by rw [h0 k hk]; omega)]; exact ih (k + 1) (by omega)
        · exact far_end h
    rw [key 13 1 (Nat.le_refl _)]
    exact ⟨rfl, h1⟩
  · right
    obtain ⟨b, hb⟩ : ∃ b, b ∈ baseR l := by
      cases hB : baseR l with
      | nil =>
        exfalso
        apply h1
        unfold baseL
        rw [List.length_reverse, srtU_len, hB]; rfl
      | cons b r => exact ⟨b, by simp⟩
    have hbp := (baseR_red h16).pos b hb
    have hbW : b ∈ wordsL l := (mem_wordsL l b).2 ((baseR_span h16 b).1 (mem_allX_self _ b hb))
    have hb12 : b < 4096 := allX_lt (n := 12) hl b ((mem_wordsL l b).1 hbW)
    have h3 := ham_ok hb12 (ham_words hh b hbW) (by omega)
    have key : ∀ q k, k + q = 14 → 1 ≤ k → k ≤ ones16 b → (farN 12 (wordsL l) k q).2 = 0 ∧ 3 ≤ (farN 12 (wordsL l) k q).1 := by
      have hob : ones16 b ≤ 12 := ones_le (by omega) hb12
      intro q
      induction q with
      | zero => intro k h _ hk; omega
      | succ q ih =>
        intro k h hk1 hk
        by_cases hz : 0 < wtN (wordsL l) k
        · rw [far_hit (by omega) hz]
          refine ⟨rfl, ?_⟩
          unfold wtN at hz
          obtain ⟨x, hx, hxk⟩ := List.countP_pos_iff.1 hz
          have hxk2 : ones16 x = k := by simpa using hxk
          have hx12 : x < 4096 := allX_lt (n := 12) hl x ((mem_wordsL l x).1 hx)
          have hx0 : x ≠ 0 := by
            rintro rfl
            have e : ones16 0 = 0 := by decide
            omega
          have := ham_ok hx12 (ham_words hh x hx) hx0
          show 3 ≤ k
          omega
        · have hne : k ≠ ones16 b := by
            intro e
            apply hz
            unfold wtN
            exact List.countP_pos_iff.2 ⟨b, hbW, by simp [e]⟩
          rw [far_next (by omega) hz]
          exact ih (k + 1) (by omega) (by omega) (by omega)
    exact key 13 1 rfl (Nat.le_refl _) (by omega)
end Go.Proofs.Ytmeffbooabionaa
