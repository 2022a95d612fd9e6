/- The reduced basis of a code, in plain words. -/
import Derived.Test.YtmeffbooabionaaHmM34
import Derived.Test.YtmeffbooabionaaSoJ
set_option linter.unusedVariables false
set_option linter.unusedSimpArgs false
namespace Go.Proofs.Ytmeffbooabionaa

/-- The place of the highest bit. -/
def hiN (b : Nat) : Nat := Lib.bitLen b - 1
theorem hi_eq {b : Nat} (h0 : 0 < b) (h : b < 65536) : Lib.bitLen b = Nat.log2 b + 1 ∧ hiN b = Nat.log2 b := by
  have h1 := bitLen_eq b (by omega)
  unfold Sort.bitsLen at h1
  rw [if_neg (by omega)] at h1
  exact ⟨h1, by unfold hiN; omega⟩
theorem hi_lt {b : Nat} (h0 : 0 < b) (h : b < 65536) : hiN b < 16 := by
  rw [(hi_eq h0 h).2]
  exact (Nat.log2_lt (by omega)).2 (by omega)
theorem hi_set {b : Nat} (h0 : 0 < b) (h : b < 65536) : b.testBit (hiN b) = true := by
  rw [(hi_eq h0 h).2]
  exact Nat.testBit_of_two_pow_le_and_two_pow_add_one_gt (Nat.log2_self_le (by omega)) Nat.lt_log2_self
theorem hi_above {b i : Nat} (h0 : 0 < b) (h : b < 65536) (hi : hiN b < i) : b.testBit i = false := by
  rw [(hi_eq h0 h).2] at hi
  exact Nat.testBit_lt_two_pow (Nat.lt_of_lt_of_le Nat.lt_log2_self (Nat.pow_le_pow_right (by omega) (by omega)))
theorem hi_of {b k : Nat} (h : b < 65536) (hk : b.testBit k = true) (ha : ∀ i, k < i → b.testBit i = false) : 0 < b ∧ hiN b = k := by
  have h0 : 0 < b := by
    rcases Nat.eq_zero_or_pos b with h0 | h0
    · subst h0; simp at hk
    · exact h0
  refine ⟨h0, ?_⟩
  rcases Nat.lt_trichotomy (hiN b) k with h1 | h1 | h1
  · rw [hi_above h0 h h1] at hk; cases hk
  · exact h1
  · have := ha _ h1; rw [hi_set h0 h] at this; cases this
theorem xor_lt16 {a b : Nat} (ha : a < 65536) (hb : b < 65536) : a ^^^ b < 65536 := Nat.xor_lt_two_pow (n := 16) ha hb
theorem hi_xor {b g : Nat} (hb0 : 0 < b) (hb : b < 65536) (hg0 : 0 < g) (hg : g < 65536) (hlt : hiN g < hiN b) : 0 < b ^^^ g ∧ hiN (b ^^^ g) = hiN b := by
  refine hi_of (xor_lt16 hb hg) ?_ fun i hi => ?_
  · rw [Nat.testBit_xor, hi_set hb0 hb, hi_above hg0 hg hlt]; rfl
  · rw [Nat.testBit_xor, hi_above hb0 hb hi, hi_above hg0 hg (by omega)]; rfl
/-! ### All sums -/
theorem allX_zero (l : List Nat) : 0 ∈ allX l :=
  snoc_ind (P := fun l => 0 ∈ allX l) (by simp [allX_nil]) (fun l g ih => by rw [allX_append]; exact List.mem_append_left _ ih) l
theorem mem_allX_snoc (l : List Nat) (g x : Nat) : x ∈ allX (l ++ [g]) ↔ x ∈ allX l ∨ x ^^^ g ∈ allX l := by
  rw [allX_append, List.mem_append, List.mem_map]
  constructor
  · rintro (h | ⟨y, hy, rfl⟩)
    · exact .inl h
    · right; rw [Nat.xor_assoc, Nat.xor_self, Nat.xor_zero]; exact hy
  · rintro (h | h)
    · exact .inl h
    · exact .inr ⟨_, h, by rw [Nat.xor_assoc, Nat.xor_self, Nat.xor_zero]⟩
theorem allX_xor (l : List Nat) : ∀ x y, x ∈ allX l → y ∈ allX l → x ^^^ y ∈ allX l := by
  refine snoc_ind (P := fun l => ∀ x y, x ∈ allX l → y ∈ allX l → x ^^^ y ∈ allX l) (fun x y hx hy => ?_) (fun l g ih x y hx hy => ?_) l
  · simp [allX_nil] at *; subst hx hy; rfl
  · rw [mem_allX_snoc] at hx hy ⊢
    rcases hx with hx | hx <;> rcases hy with hy | hy
    · exact .inl (ih _ _ hx hy)
    · right; rw [Nat.xor_assoc]; exact ih _ _ hx hy
    · right; rw [Nat.xor_assoc, Nat.xor_comm y g, ← Nat.xor_assoc]; exact ih _ _ hx hy
    · left
      have := ih _ _ hx hy
      have e : x ^^^ g ^^^ (y ^^^ g) = x ^^^ y := by
        rw [Nat.xor_comm y g, Nat.xor_assoc, ← Nat.xor_assoc g g y, Nat.xor_self, Nat.zero_xor]
      rw [e] at this
      exact this
theorem mem_allX_self (l : List Nat) : ∀ b ∈ l, b ∈ allX l := by
  refine snoc_ind (P := fun l => ∀ b ∈ l, b ∈ allX l) (fun b hb => by cases hb) (fun l g ih b hb => ?_) l
  rw [mem_allX_snoc]
  rcases List.mem_append.1 hb with hb | hb
  · exact .inl (ih b hb)
  · simp at hb; subst hb; right; rw [Nat.xor_self]; exact allX_zero l
/-- What is closed under sums, and holds the words, holds all sums. -/
theorem allX_min {l : List Nat} {S : Nat → Prop} (h0 : S 0) (hx : ∀ x y, S x → S y → S (x ^^^ y)) : (∀ b ∈ l, S b) → ∀ x ∈ allX l, S x := by
  refine snoc_ind (P := fun l => (∀ b ∈ l, S b) → ∀ x ∈ allX l, S x) (fun _ x h => by simp [allX_nil] at h; subst h; exact h0) (fun l g ih hb x h => ?_) l
  have ih' := ih (fun b hb' => hb b (by simp [hb']))
  rw [mem_allX_snoc] at h
  rcases h with h | h
  · exact ih' x h
  · have h1 := hx _ _ (ih' _ h) (hb g (by simp))
    rwa [Nat.xor_assoc, Nat.xor_self, Nat.xor_zero] at h1
theorem allX_sub {l m : List Nat} (h : ∀ b ∈ l, b ∈ allX m) : ∀ x ∈ allX l, x ∈ allX m := allX_min (S := fun x => x ∈ allX m) (allX_zero m) (allX_xor m) h
theorem allX_cons (b : Nat) (l : List Nat) (x : Nat) : x ∈ allX (b :: l) ↔ x ∈ allX l ∨ x ^^^ b ∈ allX l := by
  rw [← mem_allX_snoc]
  constructor
  · exact allX_sub (fun c hc => mem_allX_self _ c (by simp at hc ⊢; rcases hc with h | h <;> simp [h])) x
  · exact allX_sub (fun c hc => mem_allX_self _ c (by simp at hc ⊢; rcases hc with h | h <;> simp [h])) x
/-! ### The reduced basis -/
/-- A word, less what the basis takes of it. -/
def takeB (out : List Nat) (g : Nat) : Nat := out.foldl (fun g b => if g.testBit (hiN b) then g ^^^ b else g) g
def mapB (g b : Nat) : Nat := if b.testBit (hiN g) then b ^^^ g else b
def stepB (out : List Nat) (g : Nat) : List Nat := if takeB out g = 0 then out else out.map (mapB (takeB out g)) ++ [takeB out g]
def baseR (l : List Nat) : List Nat := l.foldl stepB []
/-- The reduced basis, from the greatest on. -/
def baseL (l : List Nat) : List Nat := (srtU (baseR l)).reverse
structure Red (out : List Nat) : Prop where
  pos : ∀ b ∈ out, 0 < b ∧ b < 65536
  apart : out.Pairwise fun b c => b.testBit (hiN c) = false ∧ c.testBit (hiN b) = false
theorem red_clear : ∀ (out : List Nat) (g : Nat) (done : List Nat), (∀ b ∈ out, 0 < b ∧ b < 65536) → (∀ b ∈ done, g.testBit (hiN b) = false) → (∀ b ∈ done, ∀ c ∈ out, c.testBit (hiN b) = false) →
    (out.Pairwise fun b c => b.testBit (hiN c) = false ∧ c.testBit (hiN b) = false) → ∀ b, (b ∈ done ∨ b ∈ out) → (takeB out g).testBit (hiN b) = false := by
  intro out
  induction out with
  | nil => intro g done _ h1 _ _ b hb; rcases hb with hb | hb; exact h1 b hb; cases hb
  | cons c out ih =>
    intro g done hpos h1 h2 hp b hb
    rw [List.pairwise_cons] at hp
    have hc := hpos c (by simp)
    have e : takeB (c :: out) g = takeB out (if g.testBit (hiN c) then g ^^^ c else g) := rfl
    rw [e]
    refine ih _ (c :: done) (fun b hb => hpos b (by simp [hb])) (fun d hd => ?_) (fun d hd x hx => ?_) hp.2 b ?_
    · rcases List.mem_cons.1 hd with rfl | hd
      · split
        · rw [Nat.testBit_xor, hi_set hc.1 hc.2]; simp [*]
        · rename_i hh; exact Bool.eq_false_iff.2 hh
      · split
        · rw [Nat.testBit_xor, h1 d hd, h2 d hd c (by simp)]; rfl
        · exact h1 d hd
    · rcases List.mem_cons.1 hd with rfl | hd
      · exact (hp.1 x hx).2
      · exact h2 d hd x (by simp [hx])
    · rcases hb with hb | hb
      · exact .inl (by simp [hb])
      · rcases List.mem_cons.1 hb with rfl | hb
        · exact .inl (by simp)
        · exact .inr hb
theorem red_lt : ∀ (out : List Nat) (g : Nat), (∀ b ∈ out, b < 65536) → g < 65536 → takeB out g < 65536 := by
  intro out
  induction out with
  | nil => intro g _ h; exact h
  | cons c out ih =>
    intro g hp h
    refine ih _ (fun b hb => hp b (by simp [hb])) ?_
    show (if g.testBit (hiN c) then g ^^^ c else g) < 65536
    split
    · exact xor_lt16 h (hp c (by simp))
    · exact h
theorem red_span {L : List Nat} : ∀ (out : List Nat) (g : Nat), (∀ b ∈ out, b ∈ allX L) → takeB out g ^^^ g ∈ allX L := by
  intro out
  induction out with
  | nil => intro g _; show g ^^^ g ∈ _; rw [Nat.xor_self]; exact allX_zero L
  | cons c out ih =>
    intro g hp
    have e : takeB (c :: out) g = takeB out (if g.testBit (hiN c) then g ^^^ c else g) := rfl
    rw [e]
    have h1 := ih (if g.testBit (hiN c) then g ^^^ c else g) (fun b hb => hp b (by simp [hb]))
    by_cases ht : g.testBit (hiN c) = true
    · rw [if_pos ht] at h1 ⊢
      have h2 := allX_xor L _ _ h1 (hp c (by simp))
      rw [Nat.xor_assoc, Nat.xor_assoc, Nat.xor_self, Nat.xor_zero] at h2
      exact h2
    · rw [if_neg ht] at h1 ⊢
      exact h1
theorem mapB_facts {b g : Nat} (hb : 0 < b ∧ b < 65536) (hg : 0 < g ∧ g < 65536) (hc : g.testBit (hiN b) = false) :
    (0 < mapB g b ∧ mapB g b < 65536) ∧ hiN (mapB g b) = hiN b ∧ (mapB g b).testBit (hiN g) = false := by
  unfold mapB
  by_cases ht : b.testBit (hiN g) = true
  · rw [if_pos ht]
    have hlt : hiN g < hiN b := by
      rcases Nat.lt_trichotomy (hiN g) (hiN b) with h | h | h
      · exact h
      · rw [← h, hi_set hg.1 hg.2] at hc; cases hc
      · rw [hi_above hb.1 hb.2 h] at ht; cases ht
    obtain ⟨h1, h2⟩ := hi_xor hb.1 hb.2 hg.1 hg.2 hlt
    exact ⟨⟨h1, xor_lt16 hb.2 hg.2⟩, h2, by rw [Nat.testBit_xor, ht, hi_set hg.1 hg.2]; rfl⟩
  · rw [if_neg ht]
    exact ⟨hb, rfl, by simpa using ht⟩
theorem mapB_bit {b g i : Nat} (h1 : b.testBit i = false) (h2 : g.testBit i = false) : (mapB g b).testBit i = false := by
  unfold mapB
  split
  · rw [Nat.testBit_xor, h1, h2]; rfl
  · exact h1
theorem red_ok {out : List Nat} (h : Red out) {g : Nat} : ∀ b ∈ out, (takeB out g).testBit (hiN b) = false := fun b hb => red_clear out g [] h.pos (by intro b hb; cases hb) (by intro b hb; cases hb) h.apart b (.inr hb)
theorem Red.step {out : List Nat} (h : Red out) {g : Nat} (hg : g < 65536) : Red (stepB out g) := by
  unfold stepB
  by_cases h0 : takeB out g = 0
  · rw [if_pos h0]; exact h
  · rw [if_neg h0]
    obtain ⟨r, hr⟩ : ∃ r, takeB out g = r := ⟨_, rfl⟩
    have hrl : r < 65536 := by rw [← hr]; exact red_lt out g (fun b hb => (h.pos b hb).2) hg
    have hrc : ∀ b ∈ out, r.testBit (hiN b) = false := by rw [← hr]; exact red_ok h
    rw [hr] at h0 ⊢
    have hr0 : 0 < r := by omega
    have F := fun b hb => mapB_facts (h.pos b hb) ⟨hr0, hrl⟩ (hrc b hb)
    constructor
    · intro b hb
      rcases List.mem_append.1 hb with hb | hb
      · obtain ⟨c, hc, rfl⟩ := List.mem_map.1 hb
        exact (F c hc).1
      · simp at hb; subst hb; exact ⟨hr0, hrl⟩
    · rw [List.pairwise_append]
      refine ⟨?_, List.pairwise_singleton _ _, fun b hb c hc => ?_⟩
      · rw [List.pairwise_map]
        have hp := h.apart
        rw [List.pairwise_iff_forall_sublist] at hp ⊢
        intro b c hbc
        have hb : b ∈ out := hbc.subset (by simp)
        have hc : c ∈ out := hbc.subset (by simp)
        obtain ⟨k1, k2⟩ := hp hbc
        rw [(F b hb).2.1, (F c hc).2.1]
        exact ⟨mapB_bit k1 (hrc c hc), mapB_bit k2 (hrc b hb)⟩
      · simp at hc
        subst hc
        obtain ⟨d, hd, rfl⟩ := List.mem_map.1 hb
        exact ⟨(F d hd).2.2, by rw [(F d hd).2.1]; exact hrc d hd⟩
theorem step_span {out : List Nat} (h : Red out) (g x : Nat) : x ∈ allX (stepB out g) ↔ x ∈ allX (out ++ [g]) := by
  have hs : takeB out g ^^^ g ∈ allX out := red_span out g (mem_allX_self out)
  have hmono : ∀ y, y ∈ allX out → y ∈ allX (out ++ [g]) := fun y hy => (mem_allX_snoc _ _ _).2 (.inl hy)
  unfold stepB
  by_cases h0 : takeB out g = 0
  · rw [if_pos h0]
    rw [h0, Nat.zero_xor] at hs
    constructor
    · exact hmono x
    · refine allX_sub (fun b hb => ?_) x
      rcases List.mem_append.1 hb with hb | hb
      · exact mem_allX_self _ b hb
      · simp at hb; subst hb; exact hs
  · rw [if_neg h0]
    obtain ⟨r, hr⟩ : ∃ r, takeB out g = r := ⟨_, rfl⟩
    rw [hr] at hs ⊢
    have hgm : g ∈ allX (out ++ [g]) := mem_allX_self _ g (by simp)
    have hrm : r ∈ allX (out ++ [g]) := by
      have := allX_xor _ _ _ (hmono _ hs) hgm
      rwa [Nat.xor_assoc, Nat.xor_self, Nat.xor_zero] at this
    have hrn : r ∈ allX (out.map (mapB r) ++ [r]) := mem_allX_self _ r (by simp)
    have hon : ∀ b ∈ out, b ∈ allX (out.map (mapB r) ++ [r]) := by
      intro b hb
      have h1 : mapB r b ∈ allX (out.map (mapB r) ++ [r]) := mem_allX_self _ _ (List.mem_append_left _ (List.mem_map.2 ⟨b, hb, rfl⟩))
      unfold mapB at h1
      split at h1
      · have := allX_xor _ _ _ h1 hrn
        rwa [Nat.xor_assoc, Nat.xor_self, Nat.xor_zero] at this
      · exact h1
    constructor
    · refine allX_sub (fun b hb => ?_) x
      rcases List.mem_append.1 hb with hb | hb
      · obtain ⟨c, hc, rfl⟩ := List.mem_map.1 hb
        have hcm : c ∈ allX (out ++ [g]) := mem_allX_self _ c (by simp [hc])
        unfold mapB
        split
        · exact allX_xor _ _ _ hcm hrm
        · exact hcm
      · simp at hb; subst hb; exact hrm
    · refine allX_sub (fun b hb => ?_) x
      rcases List.mem_append.1 hb with hb | hb
      · exact hon b hb
      · simp at hb
        subst hb
        have h2 : r ^^^ b ∈ allX (out.map (mapB r) ++ [r]) := allX_sub hon _ hs
        have := allX_xor _ _ _ h2 hrn
        rwa [Nat.xor_comm r b, Nat.xor_assoc, Nat.xor_self, Nat.xor_zero] at this
theorem baseR_snoc (l : List Nat) (g : Nat) : baseR (l ++ [g]) = stepB (baseR l) g := by unfold baseR; rw [List.foldl_append]; rfl
theorem baseR_red {l : List Nat} : (∀ g ∈ l, g < 65536) → Red (baseR l) :=
  snoc_ind (P := fun l => (∀ g ∈ l, g < 65536) → Red (baseR l)) (fun _ => ⟨(by intro b hb; cases hb), List.Pairwise.nil⟩) (fun l g ih h => by
    rw [baseR_snoc]
    exact (ih (fun y hy => h y (by simp [hy]))).step (h g (by simp))) l
theorem baseR_span {l : List Nat} : (∀ g ∈ l, g < 65536) → ∀ x, x ∈ allX (baseR l) ↔ x ∈ allX l := by
  refine snoc_ind (P := fun l => (∀ g ∈ l, g < 65536) → ∀ x, x ∈ allX (baseR l) ↔ x ∈ allX l) (fun _ x => Iff.rfl) (fun l g ih h x => ?_) l
  have ih' := ih (fun y hy => h y (by simp [hy]))
  rw [baseR_snoc, step_span (baseR_red (fun y hy => h y (by simp [hy]))), mem_allX_snoc, mem_allX_snoc, ih', ih']
theorem baseR_len (l : List Nat) : (baseR l).length ≤ l.length :=
  snoc_ind (P := fun l => (baseR l).length ≤ l.length) (Nat.le_refl _) (fun l g ih => by
    rw [baseR_snoc, List.length_append]
    unfold stepB
    split
    · simp; omega
    · simp; omega) l
end Go.Proofs.Ytmeffbooabionaa
