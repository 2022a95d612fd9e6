/- Tables of bytes that grow by whole rows. Laws over whatever program. -/
import Derived.Test.YtgdcmebhopjfaaaTrM8
import Derived.Test.YtgdcmebhopjfaaaTrM6
namespace Go.Proofs.Ytgdcmebhopjfaaa
open Go.RowKit

structure TabB (w : World) (base tr : Nat) (v : Value) (n : Nat) (T : List Hd) : Prop where
  len : T.length = n
  top : w.ownsRow base tr 1 v n (T.map Hd.v)
  rows : ∀ h ∈ T, RowOk w h
  pos : ∀ h ∈ T, 0 < h.Z.length
  ne : ∀ h ∈ T, ∀ a, h.A = some a → some a.block ≠ v.ownBlock
theorem tabB_nil (w : World) (base tr : Nat) : TabB w base tr (.slice none 0 0) 0 [] :=
  ⟨rfl, World.ownsRow_nil _ _ _ _, fun h hh => by simp at hh, fun h hh => by simp at hh, fun h hh => by simp at hh⟩
theorem TabB.below {w w' : World} {base tr n : Nat} {v : Value} {T : List Hd} (h : TabB w base tr v n T) (hb : Below w.heap.size w w') : TabB w' base tr v n T :=
  ⟨h.len, own_below h.top hb, fun x hx => (h.rows x hx).below hb, h.pos, h.ne⟩
theorem TabB.tab {w : World} {base tr n : Nat} {v : Value} {T : List Hd} (h : TabB w base tr v n T) : ∃ ao cap, v = .slice ao n cap ∧ TabIn w ao n T ∧ (ao = none → n = 0 ∧ cap = 0) ∧ n ≤ cap ∧ cap ≤ 9223372036854775807 := by
  obtain ⟨ao, cap, hv, hR, hn, k1, k2⟩ := own_dataK h.top
  exact ⟨ao, cap, hv, ⟨h.len, by omega, hR, h.rows⟩, hn, k1, k2⟩
/-- A row of the call's own, made above w0, as a header. -/
theorem row_made {w : World} {base tb n : Nat} {v : Value} {Z : List Nat} (h : w.ownsRow base tb 1 v n (u8s Z)) (hz : ∀ z ∈ Z, z < 256) (hn : 0 < n) : ∃ g cap, v = .slice (some ⟨g, 0, none⟩) n cap ∧ RowOk w ⟨some ⟨g, 0, none⟩, cap, Z⟩ ∧ Z.length = n ∧ base ≤ g ∧ g < w.heap.size := by
  have hl : Z.length = n := by have := h.1; rw [u8s_len] at this; omega
  obtain ⟨ao, cap, hv, hR, hnone, k1, k2⟩ := own_dataK h
  obtain ⟨g, cp, hv2⟩ := own_form h (fun e => by have := congrArg List.length e; rw [u8s_len, List.length_nil] at this; omega)
  rw [hv2] at hv
  cases hv
  have hlt := World.ownsRow.lt h g (by rw [hv2]; rfl)
  exact ⟨g, _, hv2, ⟨(fun e => by cases e), by simp only; omega, k2, hR, hz⟩, hl, hlt⟩
theorem TabB.push {w w' : World} {base tr n : Nat} {v v' : Value} {T : List Hd} {x : Hd} {o : Obj} (h : TabB w base tr v n T) (hx : RowOk w x) (hp : 0 < x.Z.length) (hg : ∀ a, x.A = some a → some a.block ≠ v.ownBlock)
    (hgr : (w.alloc o).grownBy w' v.ownBlock) (hown : w'.ownsRow base tr 1 v' (n + 1) (T.map Hd.v ++ [x.v])) (hv : v'.ownBlock = v.ownBlock ∨ v'.ownBlock = some (w.heap.size + 1)) : TabB w' base tr v' (n + 1) (T ++ [x]) := by
  have hal : Below w.heap.size w (w.alloc o) := (Below.refl _ _).alloc (Nat.le_refl _) _
  have keep : ∀ y, RowOk w y → (∀ a, y.A = some a → some a.block ≠ v.ownBlock) → RowOk w' y := fun y h1 h2 => (h1.below hal).grown hgr h2
  have nev : ∀ y, RowOk w y → 0 < y.Z.length → (∀ a, y.A = some a → some a.block ≠ v.ownBlock) → ∀ a, y.A = some a → some a.block ≠ v'.ownBlock := by
    intro y h1 h2 h3 a ha
    rcases hv with hv | hv
    · rw [hv]; exact h3 a ha
    · rw [hv]; intro e; injection e with e; have := rowOk_lt h1 h2 a ha; omega
  refine ⟨by rw [List.length_append, h.len]; rfl, by rw [List.map_append]; exact hown, fun y hy => ?_, fun y hy => ?_, fun y hy => ?_⟩
  · rcases List.mem_append.1 hy with h1 | h1
    · exact keep y (h.rows y h1) (h.ne y h1)
    · rw [List.mem_singleton.1 h1]; exact keep x hx hg
  · rcases List.mem_append.1 hy with h1 | h1
    · exact h.pos y h1
    · rw [List.mem_singleton.1 h1]; exact hp
  · rcases List.mem_append.1 hy with h1 | h1
    · exact nev y (h.rows y h1) (h.pos y h1) (h.ne y h1)
    · rw [List.mem_singleton.1 h1]; exact nev x hx hp hg
/-- A row that is made above the table's world lies apart from it. -/
theorem TabB.apart {w : World} {base tr n g cap : Nat} {v : Value} {T : List Hd} {Z : List Nat} (h : TabB w base tr v n T) (hg : w.heap.size ≤ g) : ∀ a, (⟨some ⟨g, 0, none⟩, cap, Z⟩ : Hd).A = some a → some a.block ≠ v.ownBlock := by
  intro a ha e
  cases ha
  have := (World.ownsRow.lt h.top g e.symm).2
  omega
theorem hd_one (x : Hd) : ∀ u ∈ [x.v], u.oneCell' = true := by intro u hu; simp at hu; subst hu; rfl
end Go.Proofs.Ytgdcmebhopjfaaa
