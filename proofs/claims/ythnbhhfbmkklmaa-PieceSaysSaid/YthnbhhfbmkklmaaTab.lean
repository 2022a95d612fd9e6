/- Tables of bytes: slices of slices that are read. Laws over whatever program. -/
import Derived.Test.YthnbhhfbmkklmaaArgs
import Derived.Test.YthnbhhfbmkklmaaFormK
import Derived.Test.YthnbhhfbmkklmaaInterp
import Derived.Deep.Matrix
namespace Go.Proofs.Ythnbhhfbmkklmaa
open Go.RowKit

/-- A row as its header has it: where, how much room, which bytes. -/
structure Hd where
  A : Option Addr
  C : Nat
  Z : List Nat
def Hd.v (h : Hd) : Value := .slice h.A h.Z.length h.C
def u8s (l : List Nat) : List Value := l.map fun x : Nat => Value.int .u8 (x : Int)
theorem u8s_get {l : List Nat} {i x : Nat} (h : l[i]? = some x) : (u8s l)[i]? = some (.int .u8 (x : Int)) := by unfold u8s; rw [List.getElem?_map, h]; rfl
theorem u8s_len (l : List Nat) : (u8s l).length = l.length := by simp [u8s]
theorem u8s_one (l : List Nat) : ∀ u ∈ u8s l, u.oneCell' = true := by
  intro u hu
  obtain ⟨_, _, rfl⟩ := List.mem_map.1 hu
  rfl
theorem u8s_append (l m : List Nat) : u8s (l ++ m) = u8s l ++ u8s m := by simp [u8s]
structure RowOk (w : World) (h : Hd) : Prop where
  none : h.A = none → h.Z.length = 0 ∧ h.C = 0
  cap : h.Z.length ≤ h.C
  max : h.C ≤ 9223372036854775807
  reads : Reads w h.A (u8s h.Z)
  byte : ∀ z ∈ h.Z, z < 256
theorem RowOk.below {w w' : World} {h : Hd} (k : RowOk w h) (hb : Below w.heap.size w w') : RowOk w' h := ⟨k.none, k.cap, k.max, k.reads.below hb, k.byte⟩
/-- A table that is read: its headers, and what they stand for. -/
structure TabIn (w : World) (ao : Option Addr) (n : Nat) (T : List Hd) : Prop where
  len : T.length = n
  max : n ≤ 9223372036854775807
  reads : Reads w ao (T.map Hd.v)
  rows : ∀ h ∈ T, RowOk w h
theorem TabIn.below {w w' : World} {ao : Option Addr} {n : Nat} {T : List Hd} (k : TabIn w ao n T) (hb : Below w.heap.size w w') : TabIn w' ao n T :=
  ⟨k.len, k.max, k.reads.below hb, fun h hh => (k.rows h hh).below hb⟩
theorem tabIn_nil (w : World) : TabIn w none 0 [] := ⟨rfl, by omega, Reads.nil _ _, by simp⟩
theorem TabIn.get {w : World} {ao : Option Addr} {n : Nat} {T : List Hd} (k : TabIn w ao n T) {i : Nat} (hi : i < n) : ∃ h b o, T[i]? = some h ∧ ao = some ⟨b, o, none⟩ ∧ w.cell? ⟨b, o + i, none⟩ = some (.slice h.A h.Z.length h.C) ∧ RowOk w h := by
  have hl : i < T.length := by rw [k.len]; exact hi
  obtain ⟨b, o, h1, h2⟩ := k.reads i (T[i]).v (by simp [List.getElem?_eq_getElem hl])
  exact ⟨T[i], b, o, List.getElem?_eq_getElem hl, h1, h2, k.rows _ (List.getElem_mem hl)⟩
theorem tabIn_of {w : World} {a : Addr} {len cap : Nat} {A : Nat → Option Addr} {L C : Nat → Nat} {Z : Nat → List Int} (hl : len ≤ cap) (hm : cap ≤ maxLen)
    (h : ∀ r, r < cap → w.cell? (a.add r) = some (.slice (A r) (L r) (C r)) ∧ L r ≤ C r ∧ C r ≤ maxLen ∧ (Z r).length = C r ∧ (∀ n ∈ Z r, (Lit.int .u8 n).wf = true) ∧ (A r = none → C r = 0) ∧
      ∀ a', A r = some a' → 0 ≤ a'.block ∧ ∀ c, c < C r → w.cell? (a'.add c) = some (.int .u8 ((Z r).getD c 0))) :
    ∃ T, TabIn w (some a) len T := by
  refine ⟨(List.range len).map fun r => ⟨A r, C r, ((Z r).take (L r)).map Int.toNat⟩, ?_, ?_, ?_, ?_⟩
  · simp
  · unfold maxLen at hm; omega
  · refine reads_of fun i u hu => ?_
    rw [List.getElem?_map, List.getElem?_map] at hu
    by_cases hi : i < len
    · rw [List.getElem?_range hi] at hu
      simp only [Option.map_some, Option.some.injEq] at hu
      subst hu
      obtain ⟨h1, h2, _, h4, _⟩ := h i (by omega)
      rw [h1]
      simp [Hd.v, Nat.min_eq_left, h4, h2]
    · rw [List.getElem?_eq_none (by simpa using hi)] at hu
      cases hu
  · intro hd hh
    obtain ⟨r, hr, rfl⟩ := List.mem_map.1 hh
    have hr := List.mem_range.1 hr
    obtain ⟨h1, h2, h3, h4, h5, h6, h7⟩ := h r (by omega)
    have hlen : ((List.take (L r) (Z r)).map Int.toNat).length = L r := by rw [List.length_map, List.length_take]; omega
    refine ⟨fun hn => ?_, ?_, ?_, ?_, ?_⟩
    · simp only at hn ⊢
      rw [hlen]
      have := h6 hn
      omega
    · simp only; rw [hlen]; exact h2
    · unfold maxLen at h3; simp only; omega
    · have hlt : ∀ (j : Nat) (u : Value), (u8s ((List.take (L r) (Z r)).map Int.toNat))[j]? = some u → j < L r := by
        intro j u hu
        have := (List.getElem?_eq_some_iff.1 hu).1
        rw [u8s_len, hlen] at this
        exact this
      show Reads w (A r) (u8s ((List.take (L r) (Z r)).map Int.toNat))
      cases hA : A r with
      | none => intro j u hu; have := hlt j u hu; have := h6 hA; omega
      | some a' =>
        refine reads_of fun j u hu => ?_
        have hj := hlt j u hu
        rw [(h7 a' hA).2 j (by omega)]
        have hz : (Z r)[j]? = some ((Z r).getD j 0) := by
          rw [List.getD_eq_getElem?_getD]
          rw [List.getElem?_eq_getElem (by omega)]
          rfl
        have hw := u8_wf (h5 _ (List.mem_of_getElem? hz))
        unfold u8s at hu
        simp only [List.getElem?_map, List.getElem?_take, if_pos hj, hz, Option.map_some, Option.some.injEq] at hu
        rw [← hu, Int.toNat_of_nonneg hw.1]
    · intro z hz
      simp only at hz
      obtain ⟨x, hx, rfl⟩ := List.mem_map.1 hz
      have hw := u8_wf (h5 x (List.mem_of_mem_take hx))
      omega
/-- Where the first of some values stands that a test lets by; -1 if there is none. -/
def idxA {α : Type} (p : α → Bool) (zs : List α) : Int := match zs.findIdx? p with | some i => (i : Int) | none => -1
theorem idxA_none {α : Type} {p : α → Bool} {zs : List α} (h : ∀ x ∈ zs, p x = false) : idxA p zs = -1 := by
  unfold idxA
  rw [List.findIdx?_eq_none_iff.2 (by simpa using h)]
theorem idxA_some {α : Type} {p : α → Bool} {zs : List α} {k : Nat} {x : α} (hk : zs[k]? = some x) (hx : p x = true) (h : ∀ j y, j < k → zs[j]? = some y → p y = false) : idxA p zs = k := by
  have : zs.findIdx? p = some k := by
    rw [List.findIdx?_eq_some_iff_getElem]
    obtain ⟨hl, he⟩ := List.getElem?_eq_some_iff.1 hk
    refine ⟨hl, by rw [he]; exact hx, fun j hj => ?_⟩
    have := h j _ hj (List.getElem?_eq_getElem (by omega))
    simp [this]
  unfold idxA
  rw [this]
theorem idxA_nonneg {α : Type} (p : α → Bool) (zs : List α) : decide (0 ≤ idxA p zs) = zs.any p := by
  unfold idxA
  cases h : zs.findIdx? p with
  | none =>
    rw [List.findIdx?_eq_none_iff] at h
    have : zs.any p = false := by simp only [List.any_eq_false]; intro x hx; simp [h x hx]
    rw [this]
    rfl
  | some i =>
    rw [List.findIdx?_eq_some_iff_getElem] at h
    obtain ⟨hl, h1, _⟩ := h
    have : zs.any p = true := List.any_eq_true.2 ⟨_, List.getElem_mem hl, h1⟩
    rw [this]
    simp
end Go.Proofs.Ythnbhhfbmkklmaa
