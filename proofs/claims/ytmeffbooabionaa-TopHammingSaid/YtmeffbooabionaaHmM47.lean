/- The law of linear codes, in plain words: what the reference calls the base of all words is the reduced basis. -/
import Derived.Test.YtmeffbooabionaaLinG
import Derived.Test.YtmeffbooabionaaHmM46
import Derived.Test.YtmeffbooabionaaRows
import Derived.Test.YtmeffbooabionaaBase
import Derived.Test.YtmeffbooabionaaSlices
set_option linter.unusedVariables false
set_option linter.unusedSimpArgs false
namespace Go.Proofs.Ytmeffbooabionaa

theorem Red.tail {b : Nat} {C : List Nat} (h : Red (b :: C)) : Red C := ⟨fun c hc => h.pos c (by simp [hc]), (List.pairwise_cons.1 h.apart).2⟩
theorem xor_eq_zero2 {a b : Nat} (h : a ^^^ b = 0) : a = b := by
  have := congrArg (fun z => z ^^^ b) h
  simpa [Nat.xor_assoc] using this
theorem red_zero : ∀ (C : List Nat), Red C → ∀ x, x ∈ allX C → (∀ b ∈ C, x.testBit (hiN b) = false) → x = 0 := by
  intro C
  induction C with
  | nil => intro _ x hx _; simpa [allX_nil] using hx
  | cons b C ih =>
    intro h x hx hz
    have hp := List.pairwise_cons.1 h.apart
    rcases (allX_cons b C x).1 hx with hx | hx
    · exact ih h.tail x hx fun c hc => hz c (by simp [hc])
    · have h0 := ih h.tail _ hx fun c hc => by rw [Nat.testBit_xor, hz c (by simp [hc]), (hp.1 c hc).1]; rfl
      have he := xor_eq_zero2 h0
      subst he
      have hb := h.pos x (by simp)
      have := hz x (by simp)
      rw [hi_set hb.1 hb.2] at this
      cases this
theorem hi_ne {b c : Nat} (hb : 0 < b ∧ b < 65536) (h : b.testBit (hiN c) = false) : hiN b ≠ hiN c := by
  intro e
  rw [← e, hi_set hb.1 hb.2] at h
  cases h
theorem hi_xor_ne {x y : Nat} (hx : 0 < x ∧ x < 65536) (hy : 0 < y ∧ y < 65536) (h : hiN x ≠ hiN y) : hiN (x ^^^ y) = hiN x ∨ hiN (x ^^^ y) = hiN y := by
  rcases Nat.lt_or_ge (hiN y) (hiN x) with h1 | h1
  · exact .inl (hi_xor hx.1 hx.2 hy.1 hy.2 h1).2
  · right
    rw [Nat.xor_comm]
    exact (hi_xor hy.1 hy.2 hx.1 hx.2 (by omega)).2
theorem allX_lt16 {C : List Nat} (h : Red C) : ∀ x ∈ allX C, x < 65536 := allX_lt (n := 16) fun g hg => (h.pos g hg).2
theorem red_hi : ∀ (C : List Nat), Red C → ∀ x, x ∈ allX C → x = 0 ∨ ∃ b ∈ C, hiN x = hiN b := by
  intro C
  induction C with
  | nil => intro _ x hx; left; simpa [allX_nil] using hx
  | cons b C ih =>
    intro h x hx
    have hp := List.pairwise_cons.1 h.apart
    have hb := h.pos b (by simp)
    rcases (allX_cons b C x).1 hx with hx | hx
    · rcases ih h.tail x hx with h0 | ⟨c, hc, e⟩
      · exact .inl h0
      · exact .inr ⟨c, by simp [hc], e⟩
    · right
      obtain ⟨y, hy⟩ : ∃ y, x ^^^ b = y := ⟨_, rfl⟩
      have hxy : x = y ^^^ b := by rw [← hy, Nat.xor_assoc, Nat.xor_self, Nat.xor_zero]
      rw [hy] at hx
      rcases ih h.tail y hx with h0 | ⟨c, hc, e⟩
      · subst h0; rw [Nat.zero_xor] at hxy; exact ⟨b, by simp, by rw [hxy]⟩
      · have hcp := h.pos c (by simp [hc])
        have hne : hiN y ≠ hiN b := by
          rw [e]
          intro e2
          exact hi_ne hb (hp.1 c hc).1 e2.symm
        by_cases hy0 : y = 0
        · subst hy0; rw [Nat.zero_xor] at hxy; exact ⟨b, by simp, by rw [hxy]⟩
        · rcases hi_xor_ne ⟨by omega, allX_lt16 h.tail y hx⟩ hb hne with h2 | h2
          · exact ⟨c, by simp [hc], by rw [hxy, h2, e]⟩
          · exact ⟨b, by simp, by rw [hxy, h2]⟩
theorem heads_bit {W : List Nat} (k : Nat) : (headsN W).testBit k = true ↔ ∃ x ∈ W, x ≠ 0 ∧ hiN x = k := by
  refine snoc_ind (P := fun W => (headsN W).testBit k = true ↔ ∃ x ∈ W, x ≠ 0 ∧ hiN x = k) ?_ (fun W g ih => ?_) W
  · constructor
    · intro h
      have : (0 : Nat).testBit k = true := h
      rw [Nat.zero_testBit] at this
      cases this
    · rintro ⟨x, hx, _⟩; cases hx
  · rw [headsN_snoc]
    by_cases hg : g = 0
    · rw [if_pos hg, ih]
      constructor
      · rintro ⟨x, hx, h1⟩; exact ⟨x, by simp [hx], h1⟩
      · rintro ⟨x, hx, h1, h2⟩
        rcases List.mem_append.1 hx with hx | hx
        · exact ⟨x, hx, h1, h2⟩
        · simp at hx; subst hx; exact absurd hg h1
    · rw [if_neg hg, Nat.testBit_or, Bool.or_eq_true, ih, Nat.testBit_two_pow, decide_eq_true_eq]
      constructor
      · rintro (⟨x, hx, h1⟩ | h1)
        · exact ⟨x, by simp [hx], h1⟩
        · exact ⟨g, by simp, hg, h1⟩
      · rintro ⟨x, hx, h1, h2⟩
        rcases List.mem_append.1 hx with hx | hx
        · exact .inl ⟨x, hx, h1, h2⟩
        · simp at hx; subst hx; exact .inr h2
theorem filter_one {W : List Nat} {b : Nat} {p : Nat → Bool} (hn : W.Nodup) (hb : b ∈ W) (hp : ∀ x ∈ W, p x = decide (x = b)) : W.filter p = [b] := by
  induction W with
  | nil => cases hb
  | cons a W ih =>
    rw [List.nodup_cons] at hn
    by_cases hab : a = b
    · subst hab
      rw [List.filter_cons_of_pos (by rw [hp a (by simp)]; simp)]
      congr 1
      refine List.filter_eq_nil_iff.2 fun x hx => ?_
      rw [hp x (by simp [hx])]
      intro h
      have := of_decide_eq_true h
      subst this
      exact hn.1 hx
    · rw [List.filter_cons_of_neg (by rw [hp a (by simp)]; simpa using hab)]
      exact ih hn.2 (by rcases List.mem_cons.1 hb with h | h; exact absurd h.symm hab; exact h) fun x hx => hp x (by simp [hx])
theorem dec_unique : ∀ (l m : List Nat), l.Pairwise (· > ·) → m.Pairwise (· > ·) → (∀ x, x ∈ l ↔ x ∈ m) → l = m := by
  intro l
  induction l with
  | nil =>
    intro m _ _ h
    cases m with
    | nil => rfl
    | cons a m => have := (h a).2 (by simp); cases this
  | cons a l ih =>
    intro m hl hm h
    cases m with
    | nil => have := (h a).1 (by simp); cases this
    | cons b m =>
      rw [List.pairwise_cons] at hl hm
      have hab : a = b := by
        rcases List.mem_cons.1 ((h a).1 (by simp)) with h1 | h1
        · exact h1
        · rcases List.mem_cons.1 ((h b).2 (by simp)) with h2 | h2
          · exact h2.symm
          · have := hm.1 a h1; have := hl.1 b h2; omega
      subst hab
      congr 1
      refine ih m hl.2 hm.2 fun x => ?_
      constructor
      · intro hx
        rcases List.mem_cons.1 ((h x).1 (by simp [hx])) with h1 | h1
        · have := hl.1 x hx; omega
        · exact h1
      · intro hx
        rcases List.mem_cons.1 ((h x).2 (by simp [hx])) with h1 | h1
        · have := hm.1 x hx; omega
        · exact h1
section
variable {B W : List Nat}
theorem red_unique (hB : Red B) {b c : Nat} (hb : b ∈ B) (hc : c ∈ B) (he : hiN b = hiN c) : b = c := by
  have hp := hB.apart
  rw [List.pairwise_iff_forall_sublist] at hp
  rcases Nat.decEq b c with hne | h
  · exfalso
    have key : ∀ (l : List Nat), b ∈ l → c ∈ l → [b, c].Sublist l ∨ [c, b].Sublist l := by
      intro l
      induction l with
      | nil => intro h; cases h
      | cons a l ih =>
        intro h1 h2
        rcases List.mem_cons.1 h1 with h3 | h3
        · subst h3
          rcases List.mem_cons.1 h2 with h4 | h4
          · exact absurd h4.symm hne
          · left; exact List.Sublist.cons_cons _ (List.singleton_sublist.2 h4)
        · rcases List.mem_cons.1 h2 with h4 | h4
          · subst h4; right; exact List.Sublist.cons_cons _ (List.singleton_sublist.2 h3)
          · rcases ih h3 h4 with h | h
            · exact .inl (h.cons _)
            · exact .inr (h.cons _)
    rcases key B hb hc with h | h
    · exact hi_ne (hB.pos b hb) (hp h).1 he
    · exact hi_ne (hB.pos c hc) (hp h).1 he.symm
  · exact h
theorem red_bit (hB : Red B) {b c : Nat} (hb : b ∈ B) (hc : c ∈ B) (hne : b ≠ c) : b.testBit (hiN c) = false := by
  have hp := hB.apart
  rw [List.pairwise_iff_forall_sublist] at hp
  have key : ∀ (l : List Nat), b ∈ l → c ∈ l → [b, c].Sublist l ∨ [c, b].Sublist l := by
    intro l
    induction l with
    | nil => intro h; cases h
    | cons a l ih =>
      intro h1 h2
      rcases List.mem_cons.1 h1 with h3 | h3
      · subst h3
        rcases List.mem_cons.1 h2 with h4 | h4
        · exact absurd h4.symm hne
        · left; exact List.Sublist.cons_cons _ (List.singleton_sublist.2 h4)
      · rcases List.mem_cons.1 h2 with h4 | h4
        · subst h4; right; exact List.Sublist.cons_cons _ (List.singleton_sublist.2 h3)
        · rcases ih h3 h4 with h | h
          · exact .inl (h.cons _)
          · exact .inr (h.cons _)
  rcases key B hb hc with h | h
  · exact (hp h).1
  · exact (hp h).2
theorem heads_base (hB : Red B) (hm : ∀ x, x ∈ W ↔ x ∈ allX B) (k : Nat) : (headsN W).testBit k = true ↔ ∃ b ∈ B, hiN b = k := by
  rw [heads_bit]
  constructor
  · rintro ⟨x, hx, h0, h1⟩
    rcases red_hi B hB x ((hm x).1 hx) with h | ⟨b, hb, e⟩
    · exact absurd h h0
    · exact ⟨b, hb, by rw [← e]; exact h1⟩
  · rintro ⟨b, hb, e⟩
    have := hB.pos b hb
    exact ⟨b, (hm b).2 (mem_allX_self B b hb), by omega, e⟩
theorem sel_base (hB : Red B) (hm : ∀ x, x ∈ W ↔ x ∈ allX B) {b : Nat} (hb : b ∈ B) (x : Nat) (hx : x ∈ W) : selB (headsN W) (hiN b) x = decide (x = b) := by
  have hh := heads_base hB hm
  have hk : (headsN W).testBit (hiN b) = true := (hh _).2 ⟨b, hb, rfl⟩
  unfold selB
  rw [hk, Bool.true_and]
  apply decide_eq_decide.2
  constructor
  · intro he
    have hbit : ∀ c ∈ B, x.testBit (hiN c) = decide (hiN b = hiN c) := by
      intro c hc
      have h1 := congrArg (fun z => z.testBit (hiN c)) he
      simp only [Nat.testBit_and, (hh _).2 ⟨c, hc, rfl⟩, Bool.and_true, Nat.testBit_two_pow] at h1
      exact h1
    have h0 := red_zero B hB (x ^^^ b) (allX_xor B _ _ ((hm x).1 hx) (mem_allX_self B b hb)) fun c hc => by
      rw [Nat.testBit_xor, hbit c hc]
      by_cases hbc : b = c
      · subst hbc
        have := hB.pos b hb
        rw [hi_set this.1 this.2]; simp
      · rw [red_bit hB hb hc hbc]
        have : hiN b ≠ hiN c := fun e => hbc (red_unique hB hb hc e)
        simp [this]
    exact xor_eq_zero2 h0
  · rintro rfl
    apply Nat.eq_of_testBit_eq
    intro i
    rw [Nat.testBit_and, Nat.testBit_two_pow]
    by_cases hi : hiN x = i
    · subst hi
      have := hB.pos x hb
      rw [hi_set this.1 this.2, hk]; simp
    · rw [decide_eq_false hi]
      cases hH : (headsN W).testBit i with
      | false => simp
      | true =>
        obtain ⟨c, hc, e⟩ := (hh i).1 hH
        subst e
        have hne : x ≠ c := fun e => hi (by rw [e])
        rw [red_bit hB hb hc hne]; rfl
theorem hi_gt {x y : Nat} (hx : 0 < x ∧ x < 65536) (hy : 0 < y ∧ y < 65536) (h : hiN y < hiN x) : y < x := by
  rw [(hi_eq hx.1 hx.2).2, (hi_eq hy.1 hy.2).2] at h
  have h1 : 2 ^ Nat.log2 x ≤ x := Nat.log2_self_le (by omega)
  have h2 : y < 2 ^ (Nat.log2 y + 1) := Nat.lt_log2_self
  have h3 : 2 ^ (Nat.log2 y + 1) ≤ 2 ^ Nat.log2 x := Nat.pow_le_pow_right (by omega) (by omega)
  omega
theorem dn_facts (hB : Red B) (hn : W.Nodup) (hm : ∀ x, x ∈ W ↔ x ∈ allX B) : ∀ d, d ≤ 16 → (∀ x, x ∈ dnB (headsN W) W d ↔ x ∈ B ∧ 16 ≤ hiN x + d) ∧ (dnB (headsN W) W d).Pairwise (· > ·) := by
  intro d
  induction d with
  | zero =>
    intro _
    refine ⟨fun x => ?_, List.Pairwise.nil⟩
    constructor
    · intro h; cases h
    · rintro ⟨hx, h⟩
      have := hB.pos x hx
      have := hi_lt this.1 this.2
      omega
  | succ d ih =>
    intro hd
    obtain ⟨h1, h2⟩ := ih (by omega)
    have e : dnB (headsN W) W (d + 1) = dnB (headsN W) W d ++ W.filter (selB (headsN W) (15 - d)) := rfl
    rw [e]
    by_cases hex : ∃ b ∈ B, hiN b = 15 - d
    · obtain ⟨b, hb, hk⟩ := hex
      have hf : W.filter (selB (headsN W) (15 - d)) = [b] := by
        rw [← hk]
        exact filter_one hn ((hm b).2 (mem_allX_self B b hb)) fun x hx => sel_base hB hm hb x hx
      rw [hf]
      refine ⟨fun x => ?_, ?_⟩
      · rw [List.mem_append, h1, List.mem_singleton]
        constructor
        · rintro (⟨hx, h⟩ | rfl)
          · exact ⟨hx, by omega⟩
          · exact ⟨hb, by omega⟩
        · rintro ⟨hx, h⟩
          by_cases he : 16 ≤ hiN x + d
          · exact .inl ⟨hx, he⟩
          · exact .inr (red_unique hB hx hb (by omega))
      · rw [List.pairwise_append]
        refine ⟨h2, List.pairwise_singleton _ _, fun x hx y hy => ?_⟩
        rw [List.mem_singleton] at hy
        subst hy
        obtain ⟨hxB, hxd⟩ := (h1 x).1 hx
        exact hi_gt (hB.pos x hxB) (hB.pos y hb) (by omega)
    · have hk : (headsN W).testBit (15 - d) = false := by
        cases hH : (headsN W).testBit (15 - d) with
        | false => rfl
        | true => exact absurd ((heads_base hB hm _).1 hH) hex
      have hf : W.filter (selB (headsN W) (15 - d)) = [] := by
        refine List.filter_eq_nil_iff.2 fun x _ => ?_
        unfold selB
        rw [hk]; simp
      rw [hf, List.append_nil]
      refine ⟨fun x => ?_, h2⟩
      rw [h1]
      constructor
      · rintro ⟨hx, h⟩; exact ⟨hx, by omega⟩
      · rintro ⟨hx, h⟩
        refine ⟨hx, ?_⟩
        have : hiN x ≠ 15 - d := fun e2 => hex ⟨x, hx, e2⟩
        omega
theorem red_nodup (hB : Red B) : B.Nodup := by
  have hp := hB.apart
  unfold List.Nodup
  rw [List.pairwise_iff_forall_sublist] at hp ⊢
  intro b c hbc e
  subst e
  have hb : b ∈ B := hbc.subset (by simp)
  exact hi_ne (hB.pos b hb) (hp hbc).1 rfl
theorem srt_dec (hB : Red B) : ((srtU B).reverse).Pairwise (· > ·) := by
  rw [List.pairwise_reverse]
  have h1 := srtU_sorted B
  have h2 : (srtU B).Nodup := (srtU_perm B).nodup_iff.2 (red_nodup hB)
  unfold List.Nodup at h2
  rw [List.pairwise_iff_forall_sublist] at h1 h2 ⊢
  intro a b hab
  have := h1 hab
  have := h2 hab
  show b > a
  omega
theorem baseOf_eq (hB : Red B) (hn : W.Nodup) (hm : ∀ x, x ∈ W ↔ x ∈ allX B) : baseOfN W = (srtU B).reverse := by
  obtain ⟨h1, h2⟩ := dn_facts hB hn hm 16 (Nat.le_refl _)
  refine dec_unique _ _ h2 (srt_dec hB) fun x => ?_
  unfold baseOfN
  rw [h1, List.mem_reverse, (srtU_perm B).mem_iff]
  constructor
  · rintro ⟨h, _⟩; exact h
  · intro h; exact ⟨h, by omega⟩
end
theorem strict_nodup {l : List Nat} (h : l.Pairwise (· < ·)) : l.Nodup := h.imp fun hab e => by omega
/-- P61. -/
theorem base_law {l : List Nat} (hl : ∀ g ∈ l, g < 65536) : baseOfN (wordsL l) = baseL l :=
  baseOf_eq (baseR_red hl) (strict_nodup (wordsL_strict l)) fun x => by rw [mem_wordsL, baseR_span hl]
/-! ### The dual -/
theorem onesF_xor (x y : Nat) : ∀ k, onesF (x ^^^ y) k % 2 = (onesF x k + onesF y k) % 2 := by
  intro k
  induction k with
  | zero => rfl
  | succ k ih =>
    have e : ∀ z, onesF z (k + 1) = onesF z k + z / 2 ^ k % 2 := fun z => rfl
    rw [e, e, e]
    have hb : (x ^^^ y) / 2 ^ k % 2 = (x / 2 ^ k % 2 + y / 2 ^ k % 2) % 2 := by
      rw [← Nat.toNat_testBit, ← Nat.toNat_testBit, ← Nat.toNat_testBit, Nat.testBit_xor]
      cases x.testBit k <;> cases y.testBit k <;> rfl
    omega
theorem odd_xor (y a b : Nat) : oddX y ((a ^^^ b : Nat) : Int) = (oddX y (a : Int) ^^ oddX y (b : Int)) := by
  unfold oddX
  rw [Int.toNat_natCast, Int.toNat_natCast, Int.toNat_natCast]
  have e : y &&& (a ^^^ b) = (y &&& a) ^^^ (y &&& b) := by
    apply Nat.eq_of_testBit_eq
    intro i
    simp only [Nat.testBit_and, Nat.testBit_xor]
    cases y.testBit i <;> cases a.testBit i <;> cases b.testBit i <;> rfl
  rw [e]
  unfold ones16
  have h := onesF_xor (y &&& a) (y &&& b) 16
  rcases Nat.mod_two_eq_zero_or_one (onesF (y &&& a) 16) with h1 | h1 <;> rcases Nat.mod_two_eq_zero_or_one (onesF (y &&& b) 16) with h2 | h2 <;>
    (have h3 : onesF (y &&& a ^^^ y &&& b) 16 % 2 = (onesF (y &&& a) 16 % 2 + onesF (y &&& b) 16 % 2) % 2 := by omega
     rw [h1, h2] at h3
     rw [h1, h2, h3]
     rfl)
theorem even_iff (W : List Nat) (y : Nat) : evenB W y = true ↔ ∀ x ∈ W, oddX y (x : Int) = false := by
  unfold evenB
  rw [Bool.not_eq_true', List.any_map, List.any_eq_false]
  constructor
  · intro h x hx
    have := h x hx
    simpa using this
  · intro h x hx
    have := h x hx
    show ¬ oddX y (x : Int) = true
    rw [this]; simp
theorem odd_zero (y : Nat) : oddX y ((0 : Nat) : Int) = false := by
  unfold oddX
  rw [Int.toNat_natCast, Nat.and_zero]
  rfl
theorem even_words (l : List Nat) (y : Nat) : evenB (wordsL l) y = evenB l y := by
  have h : evenB (wordsL l) y = true ↔ evenB l y = true := by
    rw [even_iff, even_iff]
    constructor
    · intro h x hx; exact h x ((mem_wordsL l x).2 (mem_allX_self l x hx))
    · intro h x hx
      refine allX_min (S := fun x => oddX y (x : Int) = false) (odd_zero y) (fun a b ha hb => ?_) h x ((mem_wordsL l x).1 hx)
      rw [odd_xor, ha, hb]; rfl
  cases h1 : evenB (wordsL l) y <;> cases h2 : evenB l y <;> simp_all
theorem cross_words (N : Nat) (l : List Nat) : crossN N (wordsL l) = crossN N l := by
  unfold crossN
  exact List.filter_congr fun y _ => even_words l y
theorem odd_comm (x y : Nat) : oddX y (x : Int) = oddX x (y : Int) := by unfold oddX; rw [Int.toNat_natCast, Int.toNat_natCast, Nat.and_comm]
theorem cross_closed (N : Nat) (l : List Nat) (x : Nat) : x ∈ allX (crossN N l) ↔ x ∈ crossN N l := by
  have hmem : ∀ z, z ∈ crossN N l ↔ z < 2 ^ N ∧ ∀ g ∈ l, oddX g (z : Int) = false := by
    intro z
    unfold crossN
    rw [List.mem_filter, List.mem_range, even_iff]
    constructor
    · rintro ⟨h1, h2⟩; exact ⟨h1, fun g hg => by rw [← odd_comm]; exact h2 g hg⟩
    · rintro ⟨h1, h2⟩; exact ⟨h1, fun g hg => by rw [odd_comm]; exact h2 g hg⟩
  constructor
  · refine allX_min (S := fun x => x ∈ crossN N l) ?_ (fun a b ha hb => ?_) (fun b hb => hb) x
    · rw [hmem]; exact ⟨Nat.two_pow_pos _, fun g _ => odd_zero g⟩
    · rw [hmem] at ha hb ⊢
      exact ⟨Nat.xor_lt_two_pow ha.1 hb.1, fun g hg => by rw [odd_xor, ha.2 g hg, hb.2 g hg]; rfl⟩
  · exact mem_allX_self _ x
/-- P64. -/
theorem dual_law (N : Nat) (l : List Nat) (hN : N ≤ 12) : baseOfN (crossN N (wordsL l)) = baseL (crossN N l) := by
  rw [cross_words]
  have hlt : ∀ g ∈ crossN N l, g < 65536 := fun g hg => by
    unfold crossN at hg
    have := List.mem_range.1 (List.mem_filter.1 hg).1
    have := two_le16 hN
    omega
  refine baseOf_eq (baseR_red hlt) ?_ fun x => by rw [baseR_span hlt, cross_closed]
  unfold crossN
  exact List.Pairwise.filter _ List.nodup_range
end Go.Proofs.Ytmeffbooabionaa
namespace Go.Proofs.Ytmeffbooabionaa
open Go.RowKit
set_option maxRecDepth 20000 in
set_option maxHeartbeats 1000000 in
/-- slices.Equal[[]uint16,uint16]. -/
theorem equal_u16 (xs ys : List Int) (ao bo : Option Addr) (ca cb : Nat) (w : World) (hlx : xs.length ≤ 9223372036854775807) (hly : ys.length ≤ 9223372036854775807)
    (hX : Hid (Reads w ao (xs.map (Value.int .u16)))) (hY : Hid (Reads w bo (ys.map (Value.int .u16)))) :
    Calls Try.prog 19 #[.slice ao xs.length ca, .slice bo ys.length cb] w fun e w' => e = .returned (.bool (decide (xs = ys))) ∧ ∃ n, w' = w.drewN n := by
  obtain ⟨lx, hlenx⟩ : ∃ n, xs.length = n := ⟨_, rfl⟩
  obtain ⟨ly, hleny⟩ : ∃ n, ys.length = n := ⟨_, rfl⟩
  rw [hlenx] at hlx ⊢
  rw [hleny] at hly ⊢
  have HLX := Lib.hid hlenx
  have HLY := Lib.hid hleny
  clear hlenx hleny
  by_cases hne : lx = ly
  · subst hne
    go_enter Try.func19, Try.ntmps19
    go_wp2_with fail
    go_loopw [13] (fun vi wr => ∃ k : Nat, vi = .int .i64 k ∧ k ≤ lx ∧ Hid (∀ j, j < k → xs[j]? = ys[j]?) ∧ ∃ n, wr = w.drewN n) (fun vi _ => lx - (intOf vi).toNat)
    case atStart => exact ⟨0, rfl, by omega, by intro j hj; omega, 0, rfl⟩
    case round =>
      obtain ⟨k, rfl, hk, hsame, n, rfl⟩ := hrel
      by_cases hkl : k < lx
      · obtain ⟨x, hx⟩ : ∃ x, xs[k]? = some x := ⟨xs[k]'(by rw [HLX.out]; exact hkl), List.getElem?_eq_getElem _⟩
        obtain ⟨y, hy⟩ : ∃ y, ys[k]? = some y := ⟨ys[k]'(by rw [HLY.out]; exact hkl), List.getElem?_eq_getElem _⟩
        obtain ⟨b, o, rfl, hc⟩ := hX.out k (.int .u16 x) (by simp [hx])
        obtain ⟨b2, o2, rfl, hc2⟩ := hY.out k (.int .u16 y) (by simp [hy])
        have HX := Lib.hid hx
        have HY := Lib.hid hy
        clear hx hy
        have i0 : (0 : Int) ≤ (k : Int) := by omega
        have i1 : (k : Int) < (lx : Int) := by omega
        go_wp2_with fail
        go_quiet (fail)
        by_cases hxy : x = y
        · have hb : (x != y) = false := by simp [hxy]
          have HXY := Lib.hid hxy
          clear hxy
          go_wp2
          go_roundw
          case rel => exact ⟨k + 1, by go_num, by omega, by
            intro j hj
            by_cases he : j = k
            · subst he; rw [HX.out, HY.out, HXY.out]
            · exact hsame.out j (by omega), by first | exact ⟨_, rfl⟩ | exact dr2 _ _ _⟩
          case measure => simp [intOf]; omega
        · have hb : (x != y) = true := by simp [hxy]
          have HXY := Lib.hid hxy
          clear hxy
          go_wp2
          go_ret
          refine ⟨ret_bool ?_, by first | exact ⟨_, rfl⟩ | exact dr2 _ _ _⟩
          refine (decide_eq_false fun h => HXY.out ?_).symm
          have h2 := HX.out
          rw [h, HY.out] at h2
          injection h2 with h2
          exact h2.symm
      · obtain rfl : k = lx := by omega
        go_wp2
        go_ret
        refine ⟨ret_bool (decide_eq_true ?_).symm, _, rfl⟩
        apply List.ext_getElem?
        intro j
        by_cases hj : j < k
        · exact hsame.out j hj
        · rw [List.getElem?_eq_none (by rw [HLX.out]; omega), List.getElem?_eq_none (by rw [HLY.out]; omega)]
  · have hn : ((lx : Int) != (ly : Int)) = true := by simp; omega
    have hn2 : decide (lx = ly) = false := by simp [hne]
    go_enter Try.func19, Try.ntmps19
    go_wp2_with fail
    go_ret
    refine ⟨ret_bool (decide_eq_false fun h => hne ?_).symm, 0, rfl⟩
    rw [← HLX.out, ← HLY.out, h]
end Go.Proofs.Ytmeffbooabionaa
