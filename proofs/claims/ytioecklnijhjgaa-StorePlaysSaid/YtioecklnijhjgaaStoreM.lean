/- The store, in plain Lean: what it holds, and what becomes of it. -/
import Derived.Test.YtioecklnijhjgaaPiece2
import Derived.Test.YtioecklnijhjgaaPlM14
set_option linter.unusedVariables false
set_option linter.unusedSimpArgs false
namespace Go.Proofs.Ytioecklnijhjgaa
open Go.RowKit

/-- A stamp and its piece. -/
abbrev Kp := Nat × ByteArray
structure St where
  wr : Nat
  dn : Nat → Bool
  kp : Nat → Nat → List Kp
def St.set (st : St) (i key : Nat) (l : List Kp) : St := { st with kp := fun i' key' => if i' = i ∧ key' = key then l else st.kp i' key' }
theorem St.set_at (st : St) (i key : Nat) (l : List Kp) : (st.set i key l).kp i key = l := if_pos ⟨rfl, rfl⟩
theorem St.set_far (st : St) {i key i' key' : Nat} (l : List Kp) (h : i' ≠ i ∨ key' ≠ key) : (st.set i key l).kp i' key' = st.kp i' key' := if_neg (by omega)
theorem St.set_dn (st : St) (i key : Nat) (l : List Kp) : (st.set i key l).dn = st.dn := rfl
theorem St.set_wr (st : St) (i key : Nat) (l : List Kp) : (st.set i key l).wr = st.wr := rfl
/-- Piece j of a string. -/
def pcs (s : ByteArray) (k j : Nat) : ByteArray := pieceS s.size (sizeN s.size k) (pcF s k j)
theorem pcs_size (s : ByteArray) (k j : Nat) (hs : s.size ≤ 60) (hk : 1 ≤ k) : 5 ≤ (pcs s k j).size ∧ (pcs s k j).size ≤ 65 := by
  unfold pcs
  rw [pieceS_size]
  have := sizeN_le (T := s.size) hk
  omega
def pick (l : List Kp) (a : Nat) : ByteArray := match l.find? (fun x => x.1 == a) with | some x => x.2 | none => ByteArray.empty
theorem pick_size {l : List Kp} {a m : Nat} (h : ∀ x ∈ l, x.2.size ≤ m) : (pick l a).size ≤ m := by
  unfold pick
  cases hf : l.find? (fun x => x.1 == a) with
  | none => exact Nat.zero_le _
  | some x => exact h x (List.mem_of_find?_eq_some hf)
/-- The pieces that the nodes have by a stamp. -/
def rowAt (n : Nat) (st : St) (key a : Nat) : List ByteArray := listOf n fun i => if st.dn i then ByteArray.empty else pick (st.kp i key) a
theorem rowAt_len (n : Nat) (st : St) (key a : Nat) : (rowAt n st key a).length = n := listOf_len _ _
theorem join_ex (ss : List ByteArray) (n : Nat) (k : Int) : ∃ p : ByteArray × Nat, JoinIs ss n k p.1 p.2 := by
  cases hr : rightB k n with
  | false => exact ⟨(_, _), .inl ⟨hr, rfl, rfl⟩⟩
  | true =>
    by_cases h1 : sameJ ss k n
    · by_cases h2 : (goodJ ss k n).length < k.toNat
      · exact ⟨(_, _), .inr (.inr (.inl ⟨hr, h1, h2, rfl, rfl⟩))⟩
      · by_cases h3 : ∀ i, i < lenM ss k n → fitJ ss k n i
        · exact ⟨(_, _), .inr (.inr (.inr (.inr ⟨hr, h1, by omega, h3, rfl, rfl⟩)))⟩
        · exact ⟨(_, _), .inr (.inr (.inr (.inl ⟨hr, h1, by omega, h3, rfl, rfl⟩)))⟩
    · exact ⟨(_, _), .inr (.inl ⟨hr, h1, rfl, rfl⟩)⟩
noncomputable def joinF (ss : List ByteArray) (n : Nat) (k : Int) : ByteArray × Nat := Classical.choose (join_ex ss n k)
theorem joinF_is (ss : List ByteArray) (n : Nat) (k : Int) : JoinIs ss n k (joinF ss n k).1 (joinF ss n k).2 := Classical.choose_spec (join_ex ss n k)
theorem joinF_eq {ss : List ByteArray} {n : Nat} {k : Int} {S : ByteArray} {E : Nat} (h : JoinIs ss n k S E) : (joinF ss n k).1 = S ∧ (joinF ss n k).2 = E := (joinF_is ss n k).uniq h
/-- The text that comes of a join is short. -/
theorem joinF_size {ss : List ByteArray} {n : Nat} {k : Nat} (hl : 1 ≤ k) (h : (joinF ss n k).2 = 0) : (joinF ss n k).1.size ≤ 60 := by
  rcases joinF_is ss n k with ⟨_, _, e⟩ | ⟨_, _, _, e⟩ | ⟨_, _, _, _, e⟩ | ⟨_, _, _, _, _, e⟩ | ⟨_, _, h3, _, e, _⟩
  · rw [e] at h; cases h
  · rw [e] at h; cases h
  · rw [e] at h; cases h
  · rw [e] at h; cases h
  · rw [e, bytesOf_size]
    unfold lenT
    have hne : goodJ ss k n ≠ [] := by
      intro h0
      rw [h0] at h3
      simp at h3
      omega
    obtain ⟨a, ha⟩ : ∃ a, a ∈ goodJ ss k n ∧ (goodJ ss k n).headD 0 = a := by
      cases hg : goodJ ss k n with
      | nil => exact absurd hg hne
      | cons a t => exact ⟨a, by simp, rfl⟩
    rw [ha.2]
    exact us_60 (mem_pl.1 ha.1).2
def ups (n : Nat) (st : St) : List Nat := pl (fun i => !st.dn i) n
theorem mem_ups {n : Nat} {st : St} {i : Nat} : i ∈ ups n st ↔ i < n ∧ st.dn i = false := by
  unfold ups
  rw [mem_pl]
  simp
theorem ups_len (n : Nat) (st : St) : (ups n st).length ≤ n := pl_len _ _
def stamps (n : Nat) (st : St) (key : Nat) : List Nat := (ups n st).flatMap fun i => (st.kp i key).map (·.1)
abbrev Best := Nat × ByteArray × Bool
noncomputable def newS (n k : Nat) (st : St) (key : Nat) (acc : Best) (a : Nat) : Best :=
  if acc.2.2 = true ∧ a ≤ acc.1 then acc else if (joinF (rowAt n st key a) n k).2 = 0 then (a, (joinF (rowAt n st key a) n k).1, true) else acc
noncomputable def newest (n k : Nat) (st : St) (key : Nat) : Best := (stamps n st key).foldl (newS n k st key) (0, ByteArray.empty, false)
theorem newS_size {n k : Nat} {st : St} {key : Nat} {acc : Best} {a : Nat} (hk : 1 ≤ k) (h : acc.2.1.size ≤ 60) : (newS n k st key acc a).2.1.size ≤ 60 := by
  unfold newS
  split
  · exact h
  · split
    · rename_i h2
      exact joinF_size hk h2
    · exact h
theorem newF_size {n k : Nat} {st : St} {key : Nat} (hk : 1 ≤ k) : ∀ (l : List Nat) (acc : Best), acc.2.1.size ≤ 60 → (l.foldl (newS n k st key) acc).2.1.size ≤ 60
  | [], _, h => h
  | _ :: t, _, h => newF_size hk t _ (newS_size hk h)
theorem newest_size {n k : Nat} {st : St} {key : Nat} (hk : 1 ≤ k) : (newest n k st key).2.1.size ≤ 60 := newF_size hk _ _ (Nat.zero_le _)
/-- What stands where the newest is mended. -/
def fixK (a : Nat) (p : ByteArray) (l : List Kp) : List Kp := (a, p) :: l.filter (fun x => decide (a < x.1))
def hasK (l : List Kp) (a : Nat) (p : ByteArray) : Bool := l.any fun x => x.1 == a && x.2.toList == p.toList
def fixS (k : Nat) (text : ByteArray) (a key : Nat) (acc : St × Nat) (i : Nat) : St × Nat :=
  (acc.1.set i key (fixK a (pcs text k i) (acc.1.kp i key)), acc.2 + if hasK (acc.1.kp i key) a (pcs text k i) then 0 else 1)
/-- What is told. -/
structure Tl where
  tx : ByteArray
  at' : Nat
  mn : Nat
def Tl.no : Tl := ⟨ByteArray.empty, 0, 0⟩
noncomputable def readF (n k wr r : Nat) (st : St) (key : Nat) : St × Tl × Nat :=
  if (ups n st).length < r ∨ (ups n st).length < wr then (st, Tl.no, 9)
  else if (newest n k st key).2.2 = false then (st, Tl.no, 4)
  else (((ups n st).foldl (fixS k (newest n k st key).2.1 (newest n k st key).1 key) (st, 0)).1,
    ⟨(newest n k st key).2.1, (newest n k st key).1, ((ups n st).foldl (fixS k (newest n k st key).2.1 (newest n k st key).1 key) (st, 0)).2⟩, 0)
def splE (n wr : Nat) (st : St) (text : ByteArray) : Nat :=
  if 60 < text.size then 2 else if (ups n st).length < wr then 9 else if st.wr = 1000000 then 11 else 0
theorem splE_zero {n wr : Nat} {st : St} {text : ByteArray} (h : splE n wr st text = 0) : text.size ≤ 60 ∧ wr ≤ (ups n st).length ∧ st.wr ≠ 1000000 := by
  unfold splE at h
  by_cases h1 : 60 < text.size
  · rw [if_pos h1] at h; cases h
  · rw [if_neg h1] at h
    by_cases h2 : (ups n st).length < wr
    · rw [if_pos h2] at h; cases h
    · rw [if_neg h2] at h
      by_cases h3 : st.wr = 1000000
      · rw [if_pos h3] at h; cases h
      · exact ⟨by omega, by omega, h3⟩
def putS (a k : Nat) (text : ByteArray) (key : Nat) (st : St) (i : Nat) : St := st.set i key [(a, pcs text k i)]
def tornS (a k : Nat) (text : ByteArray) (key : Nat) (st : St) (i : Nat) : St := st.set i key (st.kp i key ++ [(a, pcs text k i)])
def St.up1 (st : St) : St := { st with wr := st.wr + 1 }
def putF (n k wr : Nat) (st : St) (key : Nat) (text : ByteArray) : St × Tl × Nat :=
  if splE n wr st text ≠ 0 then (st, Tl.no, splE n wr st text)
  else ((ups n st).foldl (putS (st.wr + 1) k text key) st.up1, ⟨ByteArray.empty, st.wr + 1, 0⟩, 0)
def tornF (n k wr : Nat) (st : St) (key : Nat) (m : Int) (text : ByteArray) : St × Tl × Nat :=
  if splE n wr st text ≠ 0 then (st, Tl.no, splE n wr st text)
  else if m < 0 ∨ ((ups n st).length : Int) < m then (st, Tl.no, 1)
  else if ((ups n st).take m.toNat).any (fun i => decide (8 ≤ (st.kp i key).length)) = true then (st, Tl.no, 11)
  else (((ups n st).take m.toNat).foldl (tornS (st.wr + 1) k text key) st.up1, ⟨ByteArray.empty, st.wr + 1, 0⟩, 0)
/-- The first byte's last bit is turned. -/
def flipS (s : ByteArray) : ByteArray := bytesOf s.size fun j => if j = 0 then byteS s 0 ^^^ 1 else byteS s j
theorem flipS_size (s : ByteArray) : (flipS s).size = s.size := bytesOf_size _ _
def rotK (l : List Kp) : List Kp := l.dropLast ++ [((l.getLastD (0, ByteArray.empty)).1, flipS (l.getLastD (0, ByteArray.empty)).2)]
def rotF (st : St) (key : Nat) (m : Nat) : St × Nat := if (st.kp m key).length = 0 then (st, 4) else (st.set m key (rotK (st.kp m key)), 0)
def St.down (st : St) (m : Nat) (b : Bool) : St := { st with dn := fun i => if i = m then b else st.dn i }
def St.lose (st : St) (m : Nat) : St := { st with kp := fun i key => if i = m then [] else st.kp i key }
def atF (n : Nat) (st : St) (kind : Int) (key : Nat) (m : Int) : St × Nat :=
  if m < 0 ∨ (n : Int) ≤ m then (st, 1) else if kind = 4 then (st.down m.toNat true, 0) else if kind = 5 then (st.down m.toNat false, 0)
  else if kind = 6 then (st.lose m.toNat, 0) else if kind = 7 then rotF st key m.toNat else (st, 0)
def keyedB (kind : Int) : Bool := decide (kind ≤ 3) || decide (kind = 8) || decide (kind = 7)
noncomputable def doF (n k wr r : Nat) (st : St) (kind key m : Int) (text : ByteArray) : St × Tl × Nat :=
  if kind < 1 ∨ 8 < kind ∨ (keyedB kind = true ∧ (key < 0 ∨ 2 < key)) then (st, Tl.no, 1)
  else if kind = 1 then putF n k wr st key.toNat text
  else if kind = 2 then tornF n k wr st key.toNat m text
  else if kind = 3 then ((readF n k wr r st key.toNat).1, ⟨(readF n k wr r st key.toNat).2.1.tx, (readF n k wr r st key.toNat).2.1.at', 0⟩, (readF n k wr r st key.toNat).2.2)
  else if kind = 8 then ((readF n k wr r st key.toNat).1, ⟨ByteArray.empty, 0, (readF n k wr r st key.toNat).2.1.mn⟩, (readF n k wr r st key.toNat).2.2)
  else ((atF n st kind key.toNat m).1, Tl.no, (atF n st kind key.toNat m).2)

/-! ### What holds of every store -/
structure Okst (st : St) : Prop where
  w6 : st.wr ≤ 1000000
  srt : ∀ i key, (st.kp i key).Pairwise (fun x y => x.1 < y.1)
  rng : ∀ i key, ∀ x ∈ st.kp i key, 1 ≤ x.1 ∧ x.1 ≤ st.wr ∧ 5 ≤ x.2.size ∧ x.2.size ≤ 65
theorem srt_len : ∀ (l : List Kp) (a b : Nat), l.Pairwise (fun x y => x.1 < y.1) → (∀ x ∈ l, a ≤ x.1 ∧ x.1 < b) → l.length + a ≤ max a b
  | [], a, b, _, _ => by simp; omega
  | x :: t, a, b, hp, h => by
    have hx := h x (by simp)
    have h2 := List.pairwise_cons.1 hp
    have := srt_len t (x.1 + 1) b h2.2 (fun y hy => ⟨h2.1 y hy, (h y (by simp [hy])).2⟩)
    simp
    omega
theorem Okst.len {st : St} (h : Okst st) (i key : Nat) : (st.kp i key).length ≤ 1000000 := by
  have := srt_len (st.kp i key) 1 (st.wr + 1) (h.srt i key) (fun x hx => ⟨(h.rng i key x hx).1, by have := (h.rng i key x hx).2.1; omega⟩)
  have := h.w6
  omega
theorem Okst.init : Okst ⟨0, fun _ => false, fun _ _ => []⟩ := ⟨by simp, fun _ _ => List.Pairwise.nil, fun _ _ x hx => by simp at hx⟩
theorem Okst.set {st : St} (h : Okst st) (i key : Nat) {l : List Kp} (h1 : l.Pairwise (fun x y => x.1 < y.1)) (h2 : ∀ x ∈ l, 1 ≤ x.1 ∧ x.1 ≤ st.wr ∧ 5 ≤ x.2.size ∧ x.2.size ≤ 65) : Okst (st.set i key l) := by
  refine ⟨h.w6, fun i' key' => ?_, fun i' key' x hx => ?_⟩
  · by_cases hk : i' = i ∧ key' = key
    · rw [hk.1, hk.2, St.set_at]; exact h1
    · rw [St.set_far _ _ (by omega)]; exact h.srt i' key'
  · by_cases hk : i' = i ∧ key' = key
    · rw [hk.1, hk.2, St.set_at] at hx; exact h2 x hx
    · rw [St.set_far _ _ (by omega)] at hx; exact h.rng i' key' x hx
theorem Okst.fix {st : St} (h : Okst st) (i key a : Nat) {p : ByteArray} (ha : 1 ≤ a) (ha2 : a ≤ st.wr) (hp : 5 ≤ p.size ∧ p.size ≤ 65) : Okst (st.set i key (fixK a p (st.kp i key))) := by
  refine h.set i key ?_ ?_
  · unfold fixK
    rw [List.pairwise_cons]
    refine ⟨fun x hx => ?_, (h.srt i key).filter _⟩
    have := (List.mem_filter.1 hx).2
    simpa using this
  · intro x hx
    unfold fixK at hx
    rcases List.mem_cons.1 hx with rfl | hx
    · exact ⟨ha, ha2, hp⟩
    · exact h.rng i key x (List.mem_filter.1 hx).1
theorem Okst.put {st : St} (h : Okst st) (i key a : Nat) {p : ByteArray} (ha : 1 ≤ a) (ha2 : a ≤ st.wr) (hp : 5 ≤ p.size ∧ p.size ≤ 65) : Okst (st.set i key [(a, p)]) := by
  refine h.set i key (by simp) ?_
  intro x hx
  rw [List.mem_singleton.1 hx]
  exact ⟨ha, ha2, hp⟩
theorem Okst.torn {st : St} (h : Okst st) (i key a : Nat) {p : ByteArray} (hlt : ∀ x ∈ st.kp i key, x.1 < a) (ha : 1 ≤ a) (ha2 : a ≤ st.wr) (hp : 5 ≤ p.size ∧ p.size ≤ 65) : Okst (st.set i key (st.kp i key ++ [(a, p)])) := by
  refine h.set i key ?_ ?_
  · rw [List.pairwise_append]
    refine ⟨h.srt i key, by simp, fun x hx y hy => ?_⟩
    rw [List.mem_singleton.1 hy]
    exact hlt x hx
  · intro x hx
    rcases List.mem_append.1 hx with hx | hx
    · exact h.rng i key x hx
    · rw [List.mem_singleton.1 hx]; exact ⟨ha, ha2, hp⟩
theorem Okst.up1 {st : St} (h : Okst st) (hw : st.wr ≠ 1000000) : Okst st.up1 :=
  ⟨by have := h.w6; show st.wr + 1 ≤ _; omega, h.srt, fun i key x hx => by have := h.rng i key x hx; exact ⟨this.1, by show _ ≤ st.wr + 1; omega, this.2.2⟩⟩
theorem Okst.down {st : St} (h : Okst st) (m : Nat) (b : Bool) : Okst (st.down m b) := ⟨h.w6, h.srt, h.rng⟩
theorem Okst.lose {st : St} (h : Okst st) (m : Nat) : Okst (st.lose m) := by
  refine ⟨h.w6, fun i key => ?_, fun i key x hx => ?_⟩
  · show (if i = m then [] else st.kp i key).Pairwise _
    split
    · exact List.Pairwise.nil
    · exact h.srt i key
  · have hx' : x ∈ (if i = m then [] else st.kp i key) := hx
    split at hx'
    · simp at hx'
    · exact h.rng i key x hx'
theorem last_snoc {l : List Kp} (h : l.length ≠ 0) : l.dropLast ++ [l.getLastD (0, ByteArray.empty)] = l := by
  have hne : l ≠ [] := by intro e; rw [e] at h; exact h rfl
  rw [List.getLastD_eq_getLast?, List.getLast?_eq_some_getLast hne]
  exact List.dropLast_concat_getLast hne
theorem rotK_len {l : List Kp} (h : l.length ≠ 0) : (rotK l).length = l.length := by
  unfold rotK
  rw [List.length_append, List.length_dropLast]
  simp
  omega
theorem Okst.rot {st : St} (h : Okst st) (m key : Nat) (hl : (st.kp m key).length ≠ 0) : Okst (st.set m key (rotK (st.kp m key))) := by
  have hs := last_snoc hl
  have h1 := h.srt m key
  have h2 := h.rng m key
  rw [← hs] at h1 h2
  rw [List.pairwise_append] at h1
  refine h.set m key ?_ ?_
  · unfold rotK
    rw [List.pairwise_append]
    refine ⟨h1.1, by simp, fun x hx y hy => ?_⟩
    rw [List.mem_singleton.1 hy]
    have h3 := h1.2.2 x hx ((st.kp m key).getLastD (0, ByteArray.empty)) (List.mem_singleton.2 rfl)
    exact h3
  · intro x hx
    unfold rotK at hx
    rcases List.mem_append.1 hx with hx | hx
    · exact h2 x (by simp [hx])
    · rw [List.mem_singleton.1 hx]
      have := h2 _ (List.mem_append_right _ (by simp : (st.kp m key).getLastD (0, ByteArray.empty) ∈ [(st.kp m key).getLastD (0, ByteArray.empty)]))
      exact ⟨this.1, this.2.1, by rw [flipS_size]; exact this.2.2⟩
/-- The newest has a stamp that some node keeps. -/
theorem newS_in {n k : Nat} {st : St} {key : Nat} : ∀ (l : List Nat) (acc : Best), (l.foldl (newS n k st key) acc).2.2 = true → acc.2.2 = true ∧ (l.foldl (newS n k st key) acc).1 = acc.1 ∨ (l.foldl (newS n k st key) acc).1 ∈ l
  | [], _, h => .inl ⟨h, rfl⟩
  | a :: t, acc, h => by
    rw [List.foldl_cons] at h ⊢
    rcases newS_in t (newS n k st key acc a) h with ⟨h1, h2⟩ | h1
    · rw [h2]
      unfold newS at h1 ⊢
      by_cases g1 : acc.2.2 = true ∧ a ≤ acc.1
      · rw [if_pos g1] at h1 ⊢; exact .inl ⟨h1, rfl⟩
      · rw [if_neg g1] at h1 ⊢
        by_cases g2 : (joinF (rowAt n st key a) n k).2 = 0
        · rw [if_pos g2]; exact .inr (by simp)
        · rw [if_neg g2] at h1 ⊢; exact .inl ⟨h1, rfl⟩
    · exact .inr (by simp [h1])
theorem newest_in {n k : Nat} {st : St} {key : Nat} (h : (newest n k st key).2.2 = true) : ∃ i x, i ∈ ups n st ∧ x ∈ st.kp i key ∧ x.1 = (newest n k st key).1 := by
  rcases newS_in (n := n) (k := k) (st := st) (key := key) (stamps n st key) (0, ByteArray.empty, false) h with ⟨h1, _⟩ | h1
  · cases h1
  · obtain ⟨i, hi, hx⟩ := List.mem_flatMap.1 h1
    obtain ⟨x, hx, he⟩ := List.mem_map.1 hx
    exact ⟨i, x, hi, hx, he⟩
theorem take_snocN {l : List Nat} {j a : Nat} (h : l[j]? = some a) : l.take (j + 1) = l.take j ++ [a] := by
  obtain ⟨hj, he⟩ := List.getElem?_eq_some_iff.1 h
  rw [List.take_succ_eq_append_getElem hj, he]
theorem foldl_snocN {α : Type} (f : α → Nat → α) (x : α) {l : List Nat} {j a : Nat} (h : l[j]? = some a) : (l.take (j + 1)).foldl f x = f ((l.take j).foldl f x) a := by
  rw [take_snocN h, List.foldl_append]; rfl
end Go.Proofs.Ytioecklnijhjgaa
