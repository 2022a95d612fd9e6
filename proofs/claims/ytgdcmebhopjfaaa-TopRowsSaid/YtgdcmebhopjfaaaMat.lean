/- Tables of bytes that a call has made: rows of its own, written in place. Laws over whatever program. -/
import Derived.Test.YtgdcmebhopjfaaaTrM7
import Derived.Test.YtgdcmebhopjfaaaMatM
import Derived.Test.YtgdcmebhopjfaaaTrM8
namespace Go.Proofs.Ytgdcmebhopjfaaa
open Go.RowKit

def gv (x : GF) : Value := .int .u8 (x.val : Int)
theorem gv_one (x : GF) : (gv x).oneCell' = true := rfl
/-- A row's header. -/
def hdv (C : Nat) (gs cs : Nat → Nat) (i : Nat) : Value := .slice (some ⟨gs i, 0, none⟩) C (cs i)
structure Mat (w : World) (base tr tb G R C K : Nat) (gs cs : Nat → Nat) (M : Mt) : Prop where
  top : Own w base tr G R K (hdv C gs cs)
  row : ∀ i, i < R → Own w base tb (gs i) C (cs i) (fun j => gv (M i j))
  ne : ∀ i, i < R → gs i ≠ G
  inj : ∀ i j, i < R → j < R → i ≠ j → gs i ≠ gs j
section
variable {w : World} {base tr tb G R C K : Nat} {gs cs : Nat → Nat} {M : Mt}
theorem Mat.hdr (h : Mat w base tr tb G R C K gs cs M) {i : Nat} (hi : i < R) : w.cell? ⟨G, i, none⟩ = some (.slice (some ⟨gs i, 0, none⟩) C (cs i)) := h.top.cell hi
theorem Mat.cell (h : Mat w base tr tb G R C K gs cs M) {i j : Nat} (hi : i < R) (hj : j < C) : w.cell? ⟨gs i, j, none⟩ = some (gv (M i j)) := (h.row i hi).cell hj
theorem Mat.below {w' : World} (h : Mat w base tr tb G R C K gs cs M) (hb : Below w.heap.size w w') : Mat w' base tr tb G R C K gs cs M :=
  ⟨h.top.below hb, fun i hi => (h.row i hi).below hb, h.ne, h.inj⟩
theorem Mat.congr {M' : Mt} (h : Mat w base tr tb G R C K gs cs M) (he : ∀ i, i < R → ∀ j, j < C → M i j = M' i j) : Mat w base tr tb G R C K gs cs M' :=
  ⟨h.top, fun i hi => (h.row i hi).congr fun j hj => by rw [he i hi j hj], h.ne, h.inj⟩
theorem Mat.kept {w' : World} {r : Nat} (h : Mat w base tr tb G R C K gs cs M) (hg : w.grownBy w' (some r)) (h1 : r ≠ G) (h2 : ∀ i, i < R → r ≠ gs i) : Mat w' base tr tb G R C K gs cs M :=
  ⟨h.top.kept hg fun e => h1 e.symm, fun i hi => (h.row i hi).kept hg fun e => h2 i hi e.symm, h.ne, h.inj⟩
/-- One byte is written. -/
theorem Mat.set (h : Mat w base tr tb G R C K gs cs M) {i : Nat} (hi : i < R) (j : Nat) (x : GF) :
    Mat (w.setCell ⟨gs i, j, none⟩ (gv x)) base tr tb G R C K gs cs (fun a b => if a = i ∧ b = j then x else M a b) ∧ w.grownBy (w.setCell ⟨gs i, j, none⟩ (gv x)) (some (gs i)) := by
  have st := (h.row i hi).store j (gv x)
  refine ⟨⟨h.top.kept st.2 fun e => h.ne i hi e.symm, fun a ha => ?_, h.ne, h.inj⟩, st.2⟩
  by_cases he : a = i
  · subst he
    refine st.1.congr fun b _ => ?_
    by_cases hb : b = j
    · rw [if_pos hb, if_pos ⟨rfl, hb⟩]
    · rw [if_neg hb, if_neg fun h => hb h.2]
  · refine ((h.row a ha).kept st.2 (h.inj a i ha hi he)).congr fun b _ => ?_
    rw [if_neg fun h => he h.1]
theorem Mat.setBelow {w0 : World} (h : Mat w base tr tb G R C K gs cs M) (hb : Below base w0 w) (hs : base ≤ w0.heap.size) {i : Nat} (hi : i < R) (j : Nat) (u : Value) : Below base w0 (w.setCell ⟨gs i, j, none⟩ u) :=
  (h.row i hi).belowStore hb hs j u
/-- Two of some numbers change places. -/
def swp (gs : Nat → Nat) (a b : Nat) : Nat → Nat := fun i => if i = a then gs b else if i = b then gs a else gs i
theorem swp_inj {gs : Nat → Nat} {R a b : Nat} (h : ∀ i j, i < R → j < R → i ≠ j → gs i ≠ gs j) (ha : a < R) (hb : b < R) : ∀ i j, i < R → j < R → i ≠ j → swp gs a b i ≠ swp gs a b j := by
  intro i j hi hj hij
  unfold swp
  by_cases h1 : i = a <;> by_cases h2 : i = b <;> by_cases h3 : j = a <;> by_cases h4 : j = b <;> simp only [if_pos, if_neg, h1, h2, h3, h4, if_true, if_false] <;> first | omega | (apply h <;> omega) | skip
  all_goals (subst_vars; first | omega | (simp_all <;> (apply h <;> omega)))
theorem Mat.swap (h : Mat w base tr tb G R C K gs cs M) {a b : Nat} (ha : a < R) (hb : b < R) :
    Mat ((w.setCell ⟨G, a, none⟩ (hdv C gs cs b)).setCell ⟨G, b, none⟩ (hdv C gs cs a)) base tr tb G R C K (swp gs a b) (swp cs a b) (swapR M a b) := by
  have s1 := h.top.store a (hdv C gs cs b)
  have s2 := s1.1.store b (hdv C gs cs a)
  refine ⟨s2.1.congr fun j _ => ?_, fun i hi => ?_, fun i hi => ?_, swp_inj h.inj ha hb⟩
  · unfold hdv swp
    by_cases h1 : j = b
    · rw [if_pos h1]
      by_cases h2 : j = a
      · rw [if_pos h2, if_pos h2, ← h1, h2]
      · rw [if_neg h2, if_neg h2, if_pos h1, if_pos h1]
    · rw [if_neg h1]
      by_cases h2 : j = a
      · rw [if_pos h2, if_pos h2, if_pos h2]
      · rw [if_neg h2, if_neg h2, if_neg h2, if_neg h1, if_neg h1]
  · have key : ∀ k, k < R → Own ((w.setCell ⟨G, a, none⟩ (hdv C gs cs b)).setCell ⟨G, b, none⟩ (hdv C gs cs a)) base tb (gs k) C (cs k) (fun j => gv (M k j)) := fun k hk =>
      ((h.row k hk).kept s1.2 (h.ne k hk)).kept s2.2 (h.ne k hk)
    unfold swp swapR
    by_cases h1 : i = a
    · simp only [if_pos h1]; exact key b hb
    · simp only [if_neg h1]
      by_cases h2 : i = b
      · simp only [if_pos h2]; exact key a ha
      · simp only [if_neg h2]; exact key i hi
  · unfold swp
    split
    · exact h.ne b hb
    · split
      · exact h.ne a ha
      · exact h.ne i hi
theorem Mat.swapBelow {w0 : World} (h : Mat w base tr tb G R C K gs cs M) (hb : Below base w0 w) (hs : base ≤ w0.heap.size) (a b : Nat) (u v : Value) : Below base w0 ((w.setCell ⟨G, a, none⟩ u).setCell ⟨G, b, none⟩ v) :=
  (h.top.store a u).1.belowStore (h.top.belowStore hb hs a u) hs b v
/-- What a written table reads as. -/
def hds (R C : Nat) (gs cs : Nat → Nat) (M : Mt) : List Hd := (List.range R).map fun i => ⟨some ⟨gs i, 0, none⟩, cs i, (List.range C).map fun j => (M i j).val⟩
theorem hds_len (R C : Nat) (gs cs : Nat → Nat) (M : Mt) : (hds R C gs cs M).length = R := by simp [hds]
theorem hds_get {i : Nat} (C : Nat) (gs cs : Nat → Nat) (M : Mt) (hi : i < R) : (hds R C gs cs M)[i]? = some ⟨some ⟨gs i, 0, none⟩, cs i, (List.range C).map fun j => (M i j).val⟩ := by
  unfold hds; rw [List.getElem?_map, List.getElem?_range hi]; rfl
theorem Mat.rowOk (h : Mat w base tr tb G R C K gs cs M) {i : Nat} (hi : i < R) : RowOk w ⟨some ⟨gs i, 0, none⟩, cs i, (List.range C).map fun j => (M i j).val⟩ := by
  have hr := h.row i hi
  refine ⟨fun e => (by cases e), by simp only [List.length_map, List.length_range]; exact hr.caps.1, hr.caps.2, ?_, ?_⟩
  · have h1 := hr.reads
    show Reads w _ (u8s ((List.range C).map fun j => (M i j).val))
    unfold u8s
    rw [List.map_map]
    exact h1
  · intro z hz
    obtain ⟨j, _, rfl⟩ := List.mem_map.1 hz
    exact (M i j).lt
theorem Mat.tab (h : Mat w base tr tb G R C K gs cs M) : TabIn w (some ⟨G, 0, none⟩) R (hds R C gs cs M) := by
  refine ⟨hds_len .., by have := h.top.caps; omega, ?_, ?_⟩
  · have h1 := h.top.reads
    unfold hds
    rw [List.map_map]
    refine (show (List.range R).map (Hd.v ∘ _) = rowF R (hdv C gs cs) from ?_) ▸ h1
    unfold rowF
    refine List.map_congr_left fun i _ => ?_
    simp [Hd.v, hdv]
  · intro hd hh
    unfold hds at hh
    obtain ⟨i, hi, rfl⟩ := List.mem_map.1 hh
    exact h.rowOk (List.mem_range.1 hi)
/-- A table that is read, from its row a on. -/
theorem TabIn.tail {w : World} {g n : Nat} {T : List Hd} (h : TabIn w (some ⟨g, 0, none⟩) n T) (a : Nat) : TabIn w (some ⟨g, a, none⟩) (n - a) (T.drop a) := by
  refine ⟨by rw [List.length_drop, h.len], by have := h.max; omega, ?_, fun hd hh => h.rows hd (List.mem_of_mem_drop hh)⟩
  intro j u hu
  refine ⟨g, a, rfl, ?_⟩
  rw [List.getElem?_map, List.getElem?_drop] at hu
  obtain ⟨b, o, h1, h2⟩ := h.reads (a + j) u (by rw [List.getElem?_map]; exact hu)
  cases h1
  rw [← h2, Nat.zero_add]
end
/-! ### A table that grows, row by row -/
structure MatB (w : World) (base tr tb : Nat) (v : Value) (n C : Nat) (gs cs : Nat → Nat) (M : Mt) : Prop where
  top : w.ownsRow base tr 1 v n (rowF n (hdv C gs cs))
  row : ∀ i, i < n → Own w base tb (gs i) C (cs i) (fun j => gv (M i j))
  ne : ∀ i, i < n → v.ownBlock ≠ some (gs i)
  inj : ∀ i j, i < n → j < n → i ≠ j → gs i ≠ gs j
theorem matB_nil (w : World) (base tr tb C : Nat) (gs cs : Nat → Nat) (M : Mt) : MatB w base tr tb (.slice none 0 0) 0 C gs cs M :=
  ⟨World.ownsRow_nil _ _ _ _, fun i h => by omega, fun i h => by omega, fun i j h => by omega⟩
theorem MatB.mat {w : World} {base tr tb : Nat} {v : Value} {n C : Nat} {gs cs : Nat → Nat} {M : Mt} (h : MatB w base tr tb v n C gs cs M) (hn : 0 < n) :
    ∃ G K, v = .slice (some ⟨G, 0, none⟩) n K ∧ Mat w base tr tb G n C K gs cs M := by
  obtain ⟨G, K, rfl⟩ := own_form h.top (fun e => by have := congrArg List.length e; rw [rowF_length] at this; simp at this; omega)
  exact ⟨G, K, rfl, h.top, h.row, fun i hi e => h.ne i hi (by rw [e]; rfl), h.inj⟩
theorem MatB.below {w w' : World} {base tr tb : Nat} {v : Value} {n C : Nat} {gs cs : Nat → Nat} {M : Mt} (h : MatB w base tr tb v n C gs cs M) (hb : Below w.heap.size w w') : MatB w' base tr tb v n C gs cs M :=
  ⟨own_below h.top hb, fun i hi => (h.row i hi).below hb, h.ne, h.inj⟩
theorem MatB.congr {w : World} {base tr tb : Nat} {v : Value} {n C : Nat} {gs cs gs' cs' : Nat → Nat} {M M' : Mt} (h : MatB w base tr tb v n C gs cs M)
    (h1 : ∀ i, i < n → gs i = gs' i) (h2 : ∀ i, i < n → cs i = cs' i) (h3 : ∀ i, i < n → ∀ j, j < C → M i j = M' i j) : MatB w base tr tb v n C gs' cs' M' := by
  refine ⟨?_, fun i hi => ?_, fun i hi => by rw [← h1 i hi]; exact h.ne i hi, fun i j hi hj hij => by rw [← h1 i hi, ← h1 j hj]; exact h.inj i j hi hj hij⟩
  · rw [← rowF_congr fun i hi => (show hdv C gs cs i = hdv C gs' cs' i by unfold hdv; rw [h1 i hi, h2 i hi])]
    exact h.top
  · rw [← h1 i hi, ← h2 i hi]
    exact (h.row i hi).congr fun j hj => by rw [h3 i hi j hj]
/-- 'append(out, row)': the row g, made above all that the table has, comes last. -/
theorem MatB.push {w w' : World} {base tr tb : Nat} {v v' : Value} {n C g cp : Nat} {gs cs : Nat → Nat} {M : Mt} {f : Nat → GF} {o : Obj} (h : MatB w base tr tb v n C gs cs M) (hr : Own w base tb g C cp (fun j => gv (f j)))
    (hg : v.ownBlock ≠ some g) (hnew : ∀ i, i < n → gs i ≠ g) (hgr : (w.alloc o).grownBy w' v.ownBlock) (hown : w'.ownsRow base tr 1 v' (n + 1) (rowF n (hdv C gs cs) ++ [.slice (some ⟨g, 0, none⟩) C cp]))
    (hv : v'.ownBlock = v.ownBlock ∨ v'.ownBlock = some (w.heap.size + 1)) :
    MatB w' base tr tb v' (n + 1) C (fun i => if i = n then g else gs i) (fun i => if i = n then cp else cs i) (fun i => if i = n then f else M i) := by
  have keep : ∀ {g' c' : Nat} {f' : Nat → Value}, Own w base tb g' C c' f' → v.ownBlock ≠ some g' → Own w' base tb g' C c' f' := by
    intro g' c' f' h1 h2
    have h3 : Own (w.alloc o) base tb g' C c' f' := h1.below ((Below.refl _ _).alloc (Nat.le_refl _) _)
    exact World.ownsRow.kept h3 hgr (.inr fun e => h2 e.symm)
  have hlt : ∀ {g' c' : Nat} {f' : Nat → Value}, Own w base tb g' C c' f' → v.ownBlock ≠ some g' → v'.ownBlock ≠ some g' := by
    intro g' c' f' h1 h2
    rcases hv with hv | hv
    · rw [hv]; exact h2
    · rw [hv]; intro e
      have := h1.lt.2
      injection e with e
      omega
  refine ⟨?_, fun i hi => ?_, fun i hi => ?_, fun i j hi hj hij => ?_⟩
  · have e : rowF (n + 1) (hdv C (fun i => if i = n then g else gs i) (fun i => if i = n then cp else cs i)) = rowF n (hdv C gs cs) ++ [.slice (some ⟨g, 0, none⟩) C cp] := by
      rw [rowF_succ]
      congr 1
      · refine rowF_congr fun i hi => ?_
        unfold hdv
        dsimp only
        rw [if_neg (by omega), if_neg (by omega)]
      · unfold hdv
        dsimp only
        rw [if_pos rfl, if_pos rfl]
    rw [e]
    exact hown
  · by_cases he : i = n
    · simp only [if_pos he]; exact keep hr hg
    · simp only [if_neg he]; exact keep (h.row i (by omega)) (h.ne i (by omega))
  · by_cases he : i = n
    · simp only [if_pos he]; exact hlt hr hg
    · simp only [if_neg he]; exact hlt (h.row i (by omega)) (h.ne i (by omega))
  · by_cases h1 : i = n
    · by_cases h2 : j = n
      · omega
      · simp only [if_pos h1, if_neg h2]; exact fun e => hnew j (by omega) e.symm
    · by_cases h2 : j = n
      · simp only [if_neg h1, if_pos h2]; exact hnew i (by omega)
      · simp only [if_neg h1, if_neg h2]; exact h.inj i j (by omega) (by omega) hij
end Go.Proofs.Ytgdcmebhopjfaaa
