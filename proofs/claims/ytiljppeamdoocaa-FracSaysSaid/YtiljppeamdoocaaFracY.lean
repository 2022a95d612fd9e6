/- frac.Value, whatever the list. -/
import Derived.Test.YtiljppeamdoocaaFracX
namespace Go.Proofs.Ytiljppeamdoocaa
open Go.RowKit

/-- What Value must answer. -/
def ValSpec (zs : List Int) (p q c : Int) : Prop :=
  (zs.length = 0 ∧ p = 0 ∧ q = 0 ∧ c = 4) ∨ (0 < zs.length ∧ fBad zs ∧ p = 0 ∧ q = 0 ∧ c = 1) ∨
  (0 < zs.length ∧ ¬ fBad zs ∧ (∀ k, k ≤ zs.length → fSm (fVal zs k)) ∧ p = (fVal zs zs.length).1 ∧ q = (fVal zs zs.length).2 ∧ c = 0) ∨
  (0 < zs.length ∧ ¬ fBad zs ∧ (∃ k, k ≤ zs.length ∧ fBig (fVal zs k) ∧ ∀ j, j < k → fSm (fVal zs j)) ∧ p = 0 ∧ q = 0 ∧ c = 2)
theorem fBig_not {s : Int × Int} (h : fBig s) (h2 : fSm s) : False := by
  unfold fBig fSm at *
  omega
theorem intsB_of {w : World} {ao : Option Addr} {cap : Nat} {zs : List Int} (h : Reads w ao (zs.map (Value.int .i64))) (hne : 0 < zs.length) : IntsB w.heap.size w ao cap zs := by
  obtain ⟨b, o, rfl, hc⟩ := h 0 _ (by rw [List.getElem?_map, List.getElem?_eq_getElem hne]; rfl)
  refine .inr ⟨b, o, rfl, World.block_lt_of_cell? w _ hc, fun j hj => ?_⟩
  obtain ⟨b2, o2, ha, hc2⟩ := h j _ (by rw [List.getElem?_map, List.getElem?_eq_getElem hj]; rfl)
  injection ha with ha
  injection ha with e1 e2
  subst e1 e2
  rw [hc2, List.getElem?_eq_getElem hj]; rfl
theorem value_all (zs : List Int) (len : Nat) (ao : Option Addr) (cap : Nat) (w : World) (hl : zs.length = len) (h63 : len ≤ 9223372036854775807) (hR : Hid (Reads w ao (zs.map (Value.int .i64)))) :
    Calls Try.prog 13 #[.slice ao len cap] w (fun e w' => ∃ p q c, ValSpec zs p q c ∧ ValRet p q c w e w') := by
  subst hl
  rcases Nat.eq_zero_or_pos zs.length with h0 | h0
  · rw [h0]
    exact (value_empty ao cap w).mono fun e w' h => ⟨0, 0, 4, .inl ⟨h0, rfl, rfl, rfl⟩, h⟩
  · by_cases hb : fBad zs
    · exact (value_bad zs zs.length ao cap w rfl h63 hR hb).mono fun e w' h => ⟨0, 0, 1, .inr (.inl ⟨h0, hb, rfl, rfl, rfl⟩), h⟩
    · refine (callsIn_wide (n := 3)).1 ?_
      refine (value_good_in Fence.wide 3 trivial trivial trivial rfl (by omega) zs zs.length ao cap w rfl h0 h63 hR hb (intsB_of hR.out h0)).mono ?_
      rintro e w' (⟨h1, h2⟩ | ⟨h1, h2⟩)
      · exact ⟨_, _, _, .inr (.inr (.inl ⟨h0, hb, h1, rfl, rfl, rfl⟩)), h2⟩
      · exact ⟨_, _, _, .inr (.inr (.inr ⟨h0, hb, h1, rfl, rfl, rfl⟩)), h2⟩
end Go.Proofs.Ytiljppeamdoocaa
