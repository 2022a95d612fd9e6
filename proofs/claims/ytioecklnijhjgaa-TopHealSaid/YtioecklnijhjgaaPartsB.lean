/- Rows of bytes of the call's own in a slice of the call's own: 'parts[j] = append(parts[j], b)'. -/
import Derived.Test.YtioecklnijhjgaaStrB
import Derived.Test.YtioecklnijhjgaaHlM2
namespace Go.Proofs.Ytioecklnijhjgaa
open Go.RowKit

/-- n rows in block gp; row j has the first len j bytes of F j; no row lies in a block of X. -/
def Parts (w : World) (base gp n : Nat) (len : Nat → Nat) (F : Nat → Nat → Nat) (X : Nat → Prop) : Prop :=
  X gp ∧ (∀ g, X g → g < w.heap.size) ∧ ∃ V : Nat → Value, Own w base 73 gp n n V ∧ (∀ j, j < n → w.ownsRow base 5 1 (V j) (len j) (rowB (len j) (F j)) ∧ ∀ g, (V j).ownBlock = some g → ¬ X g) ∧ ∀ i j, i < n → j < n → i ≠ j → Apart (V i) (V j)
theorem Parts.below {w w' : World} {base gp n : Nat} {len : Nat → Nat} {F : Nat → Nat → Nat} {X : Nat → Prop} (h : Parts w base gp n len F X) (hb : Below w.heap.size w w') : Parts w' base gp n len F X := by
  obtain ⟨h1, h2, V, h3, h4, h5⟩ := h
  exact ⟨h1, fun g hg => Nat.lt_of_lt_of_le (h2 g hg) hb.size, V, h3.below hb, fun j hj => ⟨own_below (h4 j hj).1 hb, (h4 j hj).2⟩, h5⟩
theorem Parts.lt {w : World} {base gp n : Nat} {len : Nat → Nat} {F : Nat → Nat → Nat} {X : Nat → Prop} (h : Parts w base gp n len F X) : base ≤ gp ∧ gp < w.heap.size := by
  obtain ⟨h1, h2, V, h3, h4, h5⟩ := h
  exact h3.lt
theorem Parts.congr {w : World} {base gp n : Nat} {len len' : Nat → Nat} {F : Nat → Nat → Nat} {X : Nat → Prop} (h : Parts w base gp n len F X) (hl : ∀ j, j < n → len j = len' j) : Parts w base gp n len' F X := by
  obtain ⟨h1, h2, V, h3, h4, h5⟩ := h
  exact ⟨h1, h2, V, h3, fun j hj => by rw [← hl j hj]; exact h4 j hj, h5⟩
/-- A block that is later than all that lay there joins the set. -/
theorem Parts.widen {w w' : World} {base gp n : Nat} {len : Nat → Nat} {F : Nat → Nat → Nat} {X : Nat → Prop} (h : Parts w base gp n len F X) (hb : Below w.heap.size w w') {g : Nat} (h1 : w.heap.size ≤ g) (h2 : g < w'.heap.size) : Parts w' base gp n len F (fun k => X k ∨ k = g) := by
  obtain ⟨k1, k2, V, k3, k4, k5⟩ := h
  refine ⟨.inl k1, fun q hq => ?_, V, k3.below hb, fun j hj => ⟨own_below (k4 j hj).1 hb, fun q hq => ?_⟩, k5⟩
  · rcases hq with hq | rfl
    · exact Nat.lt_of_lt_of_le (k2 q hq) hb.size
    · exact h2
  · rintro (hx | rfl)
    · exact (k4 j hj).2 q hq hx
    · have := ((k4 j hj).1.lt q hq).2
      omega
theorem Parts.narrow {w : World} {base gp n : Nat} {len : Nat → Nat} {F : Nat → Nat → Nat} {X X' : Nat → Prop} (h : Parts w base gp n len F X) (hx : ∀ g, X' g → X g) (hg : X' gp) : Parts w base gp n len F X' := by
  obtain ⟨k1, k2, V, k3, k4, k5⟩ := h
  exact ⟨hg, fun g h => k2 g (hx g h), V, k3, fun j hj => ⟨(k4 j hj).1, fun g hq h => (k4 j hj).2 g hq (hx g h)⟩, k5⟩
/-- A store into a block of the set, another than the rows' own. -/
theorem Parts.kept {w w' : World} {base gp n : Nat} {len : Nat → Nat} {F : Nat → Nat → Nat} {X : Nat → Prop} (h : Parts w base gp n len F X) {g : Nat} (hg : w.grownBy w' (some g)) (hX : X g) (hne : gp ≠ g) : Parts w' base gp n len F X := by
  obtain ⟨k1, k2, V, k3, k4, k5⟩ := h
  refine ⟨k1, fun q hq => Nat.lt_of_lt_of_le (k2 q hq) hg.size, V, k3.kept hg hne, fun j hj => ⟨(k4 j hj).1.kept hg ?_, (k4 j hj).2⟩, k5⟩
  cases hv : (V j).ownBlock with
  | none => exact .inl rfl
  | some q => right; intro he; injection he with he; subst he; exact (k4 j hj).2 q hv hX
/-- Row j: its slice, and what comes of an append. -/
theorem Parts.get {w : World} {base gp n : Nat} {len : Nat → Nat} {F : Nat → Nat → Nat} {X : Nat → Prop} (h : Parts w base gp n len F X) {j : Nat} (hj : j < n) :
    ∃ v, w.cell? ⟨gp, j, none⟩ = some v ∧ w.ownsRow base 5 1 v (len j) (rowB (len j) (F j)) ∧
      ∀ v1 w1, w1.ownsRow base 5 1 v1 (len j + 1) (rowB (len j) (F j) ++ [.int .u8 (F j (len j) : Nat)]) → (w.alloc (.cells #[.int .u8 (F j (len j) : Nat)] 5)).grownBy w1 v.ownBlock → (v1.ownBlock = v.ownBlock ∨ v1.ownBlock = some (w.heap.size + 1)) →
        (∃ u, w1.cell? ⟨gp, j, none⟩ = some u) ∧ w1.frozen? ⟨gp, j, none⟩ = false ∧ Parts (w1.setCell ⟨gp, j, none⟩ v1) base gp n (fun t => if t = j then len t + 1 else len t) F X ∧
        (∀ g, X g → some g ≠ v.ownBlock) := by
  obtain ⟨k1, k2, V, k3, k4, k5⟩ := h
  refine ⟨V j, k3.cell hj, (k4 j hj).1, fun v1 w1 hown hgr hat => ?_⟩
  have hXb : ∀ g, X g → some g ≠ (V j).ownBlock := fun g hg he => (k4 j hj).2 g he.symm hg
  have hb1 : Below w.heap.size w (w.alloc (.cells #[.int .u8 (F j (len j) : Nat)] 5)) := (Below.refl _ _).alloc (Nat.le_refl _) _
  have h3 : Own w1 base 73 gp n n V := World.ownsRow.kept (k3.below hb1) hgr (.inr (hXb gp k1))
  have s3 := h3.store j v1
  refine ⟨⟨_, h3.cell hj⟩, h3.frozen j, ⟨k1, fun g hg => ?_, fun t => if t = j then v1 else V t, s3.1, fun t ht => ?_, fun s t hs ht hst => ?_⟩, hXb⟩
  · have := k2 g hg
    have h1 := hgr.size
    have h2 := s3.2.size
    rw [World.size_alloc] at h1
    omega
  · by_cases htj : t = j
    · subst htj
      simp only [if_true]
      refine ⟨?_, fun g hg hx => ?_⟩
      · rw [rowB_succ]
        refine hown.kept s3.2 ?_
        cases hv : v1.ownBlock with
        | none => exact .inl rfl
        | some q =>
          right; intro he; injection he with he; subst he
          rcases hat with hat | hat
          · rw [hv] at hat; exact hXb q k1 hat
          · rw [hv] at hat; injection hat with hat
            have := k2 q k1
            omega
      · rcases hat with hat | hat
        · rw [hg] at hat; exact hXb g hx hat
        · rw [hg] at hat; injection hat with hat
          have := k2 g hx
          omega
    · simp only [if_neg htj]
      have hk := kept_apart (k4 t ht).1 hgr (k5 j t hj ht (fun e => htj e.symm))
      refine ⟨hk.kept s3.2 ?_, (k4 t ht).2⟩
      cases hv : (V t).ownBlock with
      | none => exact .inl rfl
      | some q => right; intro he; injection he with he; subst he; exact (k4 t ht).2 q hv k1
  · have grow : ∀ t, t < n → t ≠ j → Apart v1 (V t) := fun t ht htj => (k5 j t hj ht (fun e => htj e.symm)).grow hat (fun g hg => by have := ((k4 t ht).1.lt g hg).2; omega)
    by_cases hsj : s = j
    · subst hsj
      simp only [if_true, if_neg (fun e => hst e.symm : ¬ t = s)]
      exact grow t ht (fun e => hst e.symm)
    · by_cases htj : t = j
      · subst htj
        simp only [if_true, if_neg hsj]
        exact (grow s hs hsj).symm
      · simp only [if_neg hsj, if_neg htj]
        exact k5 s t hs ht hst
/-- Row j, to be read. -/
theorem Parts.row {w : World} {base gp n : Nat} {len : Nat → Nat} {F : Nat → Nat → Nat} {X : Nat → Prop} (h : Parts w base gp n len F X) {j : Nat} (hj : j < n) :
    ∃ ao cap, w.cell? ⟨gp, j, none⟩ = some (.slice ao (len j) cap) ∧ Reads w ao (rowB (len j) (F j)) ∧ (ao = none → len j = 0 ∧ cap = 0) := by
  obtain ⟨k1, k2, V, k3, k4, k5⟩ := h
  obtain ⟨ao, cap, hv, hR, hn, _⟩ := own_reads (k4 j hj).1
  exact ⟨ao, cap, by rw [← hv]; exact k3.cell hj, hR, hn⟩
/-- All rows empty: 'make([][]byte, n)'. -/
theorem Parts.start {w : World} {base gp n : Nat} {F : Nat → Nat → Nat} (h : Own w base 73 gp n n (fun _ => .slice none 0 0)) : Parts w base gp n (fun _ => 0) F (fun g => g = gp) :=
  ⟨rfl, fun g hg => by rw [hg]; exact h.lt.2, fun _ => .slice none 0 0, h, fun _ _ => ⟨World.ownsRow_nil _ _ _ _, fun g hg => by cases hg⟩, fun _ _ _ _ _ g hg => by cases hg⟩
end Go.Proofs.Ytioecklnijhjgaa
