/- A piece is turned: the list and the store. -/
import Derived.Test.YtioecklnijhjgaaPlM26
import Derived.Test.YtioecklnijhjgaaPlM43
set_option linter.unusedVariables false
set_option linter.unusedSimpArgs false
namespace Go.Proofs.Ytioecklnijhjgaa
open Go.RowKit

/-! ### A piece is turned -/
def turnI (M key b : Nat) (x : It) : It := if x.1 = M ∧ x.2.1 = key ∧ x.2.2.1 = b then (x.1, x.2.1, x.2.2.1, flipS x.2.2.2) else x
def turnT (M key b j : Nat) (l : List It) : List It := (l.take j).map (turnI M key b) ++ l.drop j
theorem turnT_zero (M key b : Nat) (l : List It) : turnT M key b 0 l = l := by unfold turnT; simp
theorem turnT_len (M key b j : Nat) (l : List It) : (turnT M key b j l).length = l.length := by unfold turnT; simp; omega
theorem turnT_at (M key b : Nat) {l : List It} {j : Nat} {x : It} (h : l[j]? = some x) : (turnT M key b j l)[j]? = some x := by
  obtain ⟨hj, he⟩ := List.getElem?_eq_some_iff.1 h
  unfold turnT
  rw [List.getElem?_append_right (by simp; omega), List.getElem?_drop]
  simp only [List.length_map, List.length_take]
  rw [show j + (j - min j l.length) = j by omega]
  exact h
theorem turnT_succ (M key b : Nat) {l : List It} {j : Nat} {x : It} (h : l[j]? = some x) : turnT M key b (j + 1) l = (turnT M key b j l).set j (turnI M key b x) := by
  obtain ⟨hj, he⟩ := List.getElem?_eq_some_iff.1 h
  unfold turnT
  apply List.ext_getElem?
  intro q
  rw [List.getElem?_set]
  by_cases hq : j = q
  · subst hq
    rw [if_pos rfl, if_pos (by simp; omega), List.getElem?_append_left (by simp; omega), List.getElem?_map, List.getElem?_take, if_pos (by omega), h]; rfl
  · rw [if_neg hq]
    by_cases h2 : q < j
    · rw [List.getElem?_append_left (by simp; omega), List.getElem?_append_left (by simp; omega), List.getElem?_map, List.getElem?_map, List.getElem?_take, List.getElem?_take, if_pos (by omega), if_pos h2]
    · rw [List.getElem?_append_right (by simp; omega), List.getElem?_append_right (by simp; omega), List.getElem?_drop, List.getElem?_drop]
      congr 1
      simp
      omega
theorem turnT_yes (M key b : Nat) {l : List It} {j u0 u1 c : Nat} {s : ByteArray} (h : l[j]? = some (u0, u1, c, s)) (h1 : u0 = M) (h2 : u1 = key) (h3 : c = b) : turnT M key b (j + 1) l = (turnT M key b j l).set j (u0, u1, c, flipS s) := by
  rw [turnT_succ M key b h]
  unfold turnI
  rw [if_pos ⟨h1, h2, h3⟩]
theorem turnT_no (M key b : Nat) {l : List It} {j u0 u1 c : Nat} {s : ByteArray} (h : l[j]? = some (u0, u1, c, s)) (hn : ¬ (u0 = M ∧ u1 = key ∧ c = b)) : turnT M key b (j + 1) l = turnT M key b j l := by
  rw [turnT_succ M key b h]
  unfold turnI
  rw [if_neg hn]
  apply List.ext_getElem?
  intro q
  rw [List.getElem?_set]
  by_cases hq : j = q
  · subst hq
    rw [if_pos rfl, turnT_at M key b h]
    simp [turnT_len, (List.getElem?_eq_some_iff.1 h).1]
  · rw [if_neg hq]
theorem kept_size {n D M key : Nat} {All : List It} {st : St} (h : Shl n D All st) (hM : M < n) (hkey : key < 3) {j u0 u1 c : Nat} {s : ByteArray} (hx : All[j]? = some (u0, u1, c, s)) (h1 : u0 = M) (h2 : u1 = key) : 5 ≤ s.size ∧ s.size ≤ 65 := by
  have hm : ((c, s) : Kp) ∈ keptAt All M key := by
    unfold keptAt
    refine List.mem_map.2 ⟨(u0, u1, c, s), List.mem_filter.2 ⟨List.mem_of_getElem? hx, ?_⟩, rfl⟩
    unfold atB
    simp [h1, h2]
  rw [h.kp M key hM hkey] at hm
  exact (h.ok.rng M key _ hm).2.2
theorem flip_eq {s : ByteArray} (h : 1 ≤ s.size) : strOf [byteS s 0 ^^^ 1] ++ s.extract 1 s.size = flipS s := by
  have hb := (u8_flip (byteS s 0) (byteS_lt s 0)).2
  have hz : (strOf [byteS s 0 ^^^ 1] ++ s.extract 1 s.size).size = s.size := by
    rw [ByteArray.size_append, strOf_size, ByteArray.size_extract]
    simp
    omega
  unfold flipS
  refine ((bytesOf_eq hz (fun k hk => ?_)).2 (fun k hk => ?_)).symm
  · show (if k = 0 then byteS s 0 ^^^ 1 else byteS s k) < 256
    split
    · exact hb
    · exact byteS_lt _ _
  · show (if k = 0 then byteS s 0 ^^^ 1 else byteS s k) = _
    by_cases h0 : k = 0
    · rw [if_pos h0, h0, byteS_left (by rw [strOf_size]; simp), strOf_get (by simp) (by intro c hc; simp at hc; rw [hc]; exact hb)]
      rfl
    · rw [if_neg h0]
      have e1 : (strOf [byteS s 0 ^^^ 1]).size = 1 := by rw [strOf_size]; rfl
      have hd : (strOf [byteS s 0 ^^^ 1] ++ s.extract 1 s.size).data = (strOf [byteS s 0 ^^^ 1]).data ++ (s.extract 1 s.size).data := ByteArray.data_append
      have hd2 : (s.extract 1 s.size).data = s.data.extract 1 s.size := ByteArray.data_extract
      have e2 : (strOf [byteS s 0 ^^^ 1]).data.size = 1 := e1
      have hks : k < s.data.size := hk
      have q1 : (strOf [byteS s 0 ^^^ 1] ++ s.extract 1 s.size).data[k]? = s.data[k]? := by
        rw [hd, Array.getElem?_append_right (by omega), e2, hd2, Array.getElem?_extract]
        have hs2 : s.size = s.data.size := rfl
        rw [if_pos (by omega), show 1 + (k - 1) = k by omega]
      show (s.data.toList.getD k 0).toNat = ((strOf [byteS s 0 ^^^ 1] ++ s.extract 1 s.size).data.toList.getD k 0).toNat
      rw [List.getD_eq_getElem?_getD, List.getD_eq_getElem?_getD, Array.getElem?_toList, Array.getElem?_toList, q1]
theorem last_at2 {L : List Kp} {lq : Nat} {x : Kp} (hl : L.length = lq + 1) (hx : L[lq]? = some x) : L.getLastD (0, ByteArray.empty) = x := by
  have hne : L ≠ [] := by intro e; rw [e] at hl; cases hl
  rw [List.getLastD_eq_getLast?, List.getLast?_eq_getElem?, hl]
  rw [show lq + 1 - 1 = lq by omega, hx]; rfl
theorem rot_map {L : List Kp} (hs : L.Pairwise (fun x y => x.1 < y.1)) {lq b : Nat} {s : ByteArray} (hl : L.length = lq + 1) (hx : L[lq]? = some (b, s)) : L.map (fun x => if x.1 = b then (x.1, flipS x.2) else x) = rotK L := by
  have hla := last_at2 hl hx
  have hsn := last_snoc (l := L) (by omega)
  unfold rotK
  rw [hla] at hsn ⊢
  obtain ⟨d, hd⟩ : ∃ d, L.dropLast = d := ⟨_, rfl⟩
  rw [hd] at hsn ⊢
  rw [← hsn] at hs ⊢
  rw [List.map_append]
  rw [List.pairwise_append] at hs
  congr 1
  · conv => rhs; rw [← List.map_id d]
    apply List.map_congr_left
    intro x hxm
    have := hs.2.2 x hxm (b, s) (by simp)
    have hne : x.1 ≠ b := by
      intro e
      rw [e] at this
      exact Nat.lt_irrefl _ this
    rw [if_neg hne]; rfl
  · simp
theorem turnT_end (M key b : Nat) (l : List It) : turnT M key b l.length l = l.map (turnI M key b) := by unfold turnT; simp
theorem keptAt_turn (M key b : Nat) (l : List It) (i' key' : Nat) : keptAt (l.map (turnI M key b)) i' key' = if i' = M ∧ key' = key then (keptAt l M key).map (fun x => if x.1 = b then (x.1, flipS x.2) else x) else keptAt l i' key' := by
  have h1 : ∀ x : It, (turnI M key b x).1 = x.1 ∧ (turnI M key b x).2.1 = x.2.1 := fun x => by unfold turnI; split <;> exact ⟨rfl, rfl⟩
  unfold keptAt
  rw [List.filter_map]
  have e1 : (atB i' key' ∘ turnI M key b) = atB i' key' := by
    funext x
    show atB i' key' (turnI M key b x) = atB i' key' x
    unfold atB
    rw [(h1 x).1, (h1 x).2]
  rw [e1, List.map_map]
  by_cases h : i' = M ∧ key' = key
  · rw [if_pos h, h.1, h.2, List.map_map]
    apply List.map_congr_left
    intro x hx
    have ha := (List.mem_filter.1 hx).2
    unfold atB at ha
    simp at ha
    show (turnI M key b x).2.2 = if x.2.2.1 = b then (x.2.2.1, flipS x.2.2.2) else x.2.2
    unfold turnI
    by_cases hb : x.2.2.1 = b
    · rw [if_pos ⟨ha.1, ha.2, hb⟩, if_pos hb]
    · rw [if_neg (fun h => hb h.2.2), if_neg hb]
  · rw [if_neg h]
    apply List.map_congr_left
    intro x hx
    have ha := (List.mem_filter.1 hx).2
    unfold atB at ha
    simp at ha
    show (turnI M key b x).2.2 = x.2.2
    unfold turnI
    rw [if_neg (fun h2 => h ⟨ha.1.symm.trans h2.1, ha.2.symm.trans h2.2.1⟩)]
theorem Shl.rot {n D M key b lq : Nat} {All : List It} {st : St} {s : ByteArray} (h : Shl n D All st) (hM : M < n) (hkey : key < 3) (hl : (st.kp M key).length = lq + 1) (hx : (st.kp M key)[lq]? = some (b, s)) :
    Shl n D (All.map (turnI M key b)) (st.set M key (rotK (st.kp M key))) := by
  refine ⟨fun i' key' hi hk' => ?_, h.dn, h.d, fun x hx => ?_, h.ok.rot M key (by omega)⟩
  · rw [keptAt_turn]
    by_cases hh : i' = M ∧ key' = key
    · rw [if_pos hh, hh.1, hh.2, St.set_at, h.kp M key hM hkey, rot_map (h.ok.srt M key) hl hx]
    · rw [if_neg hh, St.set_far _ _ (by omega)]; exact h.kp i' key' hi hk'
  · obtain ⟨y, hy, rfl⟩ := List.mem_map.1 hx
    have h1 := h.it y hy
    unfold turnI
    split <;> exact h1
theorem set_same {α : Type} {l : List α} {i : Nat} {v : α} (h : l[i]? = some v) : l.set i v = l := by
  obtain ⟨hi, he⟩ := List.getElem?_eq_some_iff.1 h
  rw [← he]; exact List.set_getElem_self hi
theorem itCells_last {l : List It} {j u0 u1 c : Nat} {s s' : ByteArray} (h : l[j]? = some (u0, u1, c, s)) : (itCells l).set (j * 5 + 4) (.string s') = itCells (l.set j (u0, u1, c, s')) := by
  have g := itCells_get h
  rw [itCells_set _ (List.getElem?_eq_some_iff.1 h).1]
  have g0 : (itCells l)[j * 5]? = some (.int .i64 (u0 : Int)) := g 0 (by omega)
  have g1 : (itCells l)[j * 5 + 1]? = some (.int .i64 (u1 : Int)) := g 1 (by omega)
  have g2 : (itCells l)[j * 5 + 2]? = some (.int .i64 (c : Int)) := g 2 (by omega)
  have g3 : (itCells l)[j * 5 + 3]? = some (.int .i64 0) := g 3 (by omega)
  simp only
  rw [set_same g0, set_same g1, set_same g2, set_same g3]
theorem own_off {w : World} {base e size n cap b o : Nat} {xs : List Value} (h : w.ownsRow base e size (.slice (some ⟨b, o, none⟩) n cap) n xs) : o = 0 ∧ base ≤ b := by
  rcases h.2 with ⟨hv, _⟩ | ⟨g, c', cur, hv, hb, _⟩
  · cases hv
  · cases hv; exact ⟨rfl, hb⟩
end Go.Proofs.Ytioecklnijhjgaa
