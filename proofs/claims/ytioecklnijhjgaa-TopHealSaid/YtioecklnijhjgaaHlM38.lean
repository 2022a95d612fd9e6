/- The store in memory: a row is changed where it lies; a node loses all. -/
import Derived.Test.YtioecklnijhjgaaStoreI
import Derived.Test.YtioecklnijhjgaaStoreH
import Derived.Test.YtioecklnijhjgaaHlM34
namespace Go.Proofs.Ytioecklnijhjgaa
open Go.RowKit

theorem Shf.congr {w : World} {base : Nat} {Av : Nat → Prop} {n k wr r b nb : Nat} {V : Nat → Nat → Value} {st st' : St} (h : Shf w base Av n k wr r b nb V st) (h1 : ∀ i key, i < n → key < 3 → st'.kp i key = st.kp i key) (h2 : ∀ i, i < n → st'.dn i = st.dn i) (h3 : st'.wr = st.wr) (hok : Okst st') :
    Shf w base Av n k wr r b nb V st' :=
  ⟨h.hb, by rw [h3]; exact h.hst, h.nodes.congr fun j hj => by unfold nodeF; rw [h2 (j / 4) (by omega)], fun i key hi hk => by rw [h1 i key hi hk]; exact h.row i key hi hk, h.ap, h.vb, h.nbb, h.av, h.avv, hok⟩
theorem Shf.poke {w w1 : World} {base : Nat} {Av : Nat → Prop} {n k wr r b nb : Nat} {V : Nat → Nat → Value} {st : St} (h : Shf w base Av n k wr r b nb V st) {i key : Nat} (hi : i < n) (hk : key < 3)
    {l : List Kp} (hg : w.grownBy w1 (V i key).ownBlock) (hown : w1.ownsRow base 50 3 (V i key) l.length (kpCells l)) (hok : Okst (st.set i key l)) :
    Shf w1 base Av n k wr r b nb V (st.set i key l) ∧ Kept Av base w w1 := by
  have hbl := h.nodes.lt
  have hbb := h.blt
  have hbase : base ≤ w.heap.size := Nat.le_trans h.hb (Nat.le_of_lt hbb)
  have hvi := h.vb i key hi hk
  have hri := (h.row i key hi hk).lt
  have hN1 : Own w1 base 77 nb (n * 4) (n * 4) (nodeF st.dn V) := World.ownsRow.kept h.nodes hg (.inr fun e => hvi.2 e.symm)
  refine ⟨⟨h.hb, heap_grown_old hg h.hst (fun e => hvi.1 e.symm), hN1, ?_, h.ap, h.vb, h.nbb, fun g hg2 => ⟨Nat.lt_of_lt_of_le (h.av g hg2).1 hg.size, (h.av g hg2).2⟩, h.avv, hok⟩, ?_⟩
  · intro j key' hj hk'
    by_cases he : j = i ∧ key' = key
    · rw [he.1, he.2, St.set_at]; exact hown
    · rw [St.set_far _ _ (by omega)]
      refine (h.row j key' hj hk').kept hg ?_
      cases hu : (V j key').ownBlock with
      | none => exact .inl rfl
      | some g => exact .inr fun e => h.ap i key j key' hi hk hj hk' (by omega) g e.symm hu
  · refine ⟨(Below.refl base w).grown hg hbase fun g hg => (hri g hg).1, fun g hA => hg.block g (h.av g hA).1 (fun e => h.avv i key g hi hk e.symm hA)⟩
theorem Shf.put_nil {w : World} {base : Nat} {Av : Nat → Prop} {n k wr r b nb : Nat} {V : Nat → Nat → Value} {st : St} (h : Shf w base Av n k wr r b nb V st) {i key : Nat} (hi : i < n) (hk : key < 3) :
    Shf (w.setCell ⟨nb, i * 4 + 1 + key, none⟩ (.slice none 0 0)) base Av n k wr r b nb (setV V i key (.slice none 0 0)) (st.set i key []) ∧ Kept Av base w (w.setCell ⟨nb, i * 4 + 1 + key, none⟩ (.slice none 0 0)) := by
  have hS := h.nodes.store (i * 4 + 1 + key) (.slice none 0 0)
  have hbl := h.nodes.lt
  refine ⟨⟨h.hb, ?_, hS.1.congr fun j _ => nodeF_set _ _ _ _ _ hk _, ?_, ?_, ?_, h.nbb, fun g hg2 => ⟨Nat.lt_of_lt_of_le (h.av g hg2).1 hS.2.size, (h.av g hg2).2⟩, ?_, h.ok.set i key List.Pairwise.nil (fun x hx => by simp at hx)⟩, below_set (Below.refl _ _) hbl.1 _, fun g hA => ?_⟩
  · rw [heap_set_far _ (fun e : nb = b => h.nbb e.symm)]; exact h.hst
  · intro j key' hj hk'
    by_cases he : j = i ∧ key' = key
    · rw [he.1, he.2, setV_at, St.set_at]; exact World.ownsRow_nil _ _ _ _
    · rw [setV_far _ _ (by omega), St.set_far _ _ (by omega)]
      exact (h.row j key' hj hk').kept hS.2 (.inr (h.vb j key' hj hk').2)
  · intro j key' j2 key2 hj hk' hj2 hk2 hne g hg1 hg2
    by_cases he : j = i ∧ key' = key
    · rw [he.1, he.2, setV_at] at hg1; cases hg1
    · rw [setV_far _ _ (by omega)] at hg1
      by_cases he2 : j2 = i ∧ key2 = key
      · rw [he2.1, he2.2, setV_at] at hg2; cases hg2
      · rw [setV_far _ _ (by omega)] at hg2
        exact h.ap j key' j2 key2 hj hk' hj2 hk2 hne g hg1 hg2
  · intro j key' hj hk'
    by_cases he : j = i ∧ key' = key
    · rw [he.1, he.2, setV_at]; exact ⟨(by intro e; cases e), (by intro e; cases e)⟩
    · rw [setV_far _ _ (by omega)]; exact h.vb j key' hj hk'
  · intro j key' g hj hk' hgv
    by_cases he : j = i ∧ key' = key
    · rw [he.1, he.2, setV_at] at hgv; cases hgv
    · rw [setV_far _ _ (by omega)] at hgv; exact h.avv j key' g hj hk' hgv
  · rw [heap_set_far _ (fun e : nb = g => (h.av g hA).2.2 e.symm)]
/-- A node loses all that it keeps. -/
theorem Shf.put_lose {w : World} {base : Nat} {Av : Nat → Prop} {n k wr r b nb : Nat} {V : Nat → Nat → Value} {st : St} (h : Shf w base Av n k wr r b nb V st) {i : Nat} (hi : i < n) :
    (∃ V', Shf (((w.setCell ⟨nb, i * 4 + 1, none⟩ (.slice none 0 0)).setCell ⟨nb, i * 4 + 1 + 1, none⟩ (.slice none 0 0)).setCell ⟨nb, i * 4 + 1 + 2, none⟩ (.slice none 0 0)) base Av n k wr r b nb V' (st.lose i)) ∧
    Kept Av base w (((w.setCell ⟨nb, i * 4 + 1, none⟩ (.slice none 0 0)).setCell ⟨nb, i * 4 + 1 + 1, none⟩ (.slice none 0 0)).setCell ⟨nb, i * 4 + 1 + 2, none⟩ (.slice none 0 0)) := by
  have h1 := h.put_nil hi (show 0 < 3 by omega)
  have h2 := h1.1.put_nil hi (show 1 < 3 by omega)
  have h3 := h2.1.put_nil hi (show 2 < 3 by omega)
  refine ⟨⟨_, h3.1.congr (fun j key hj hk => ?_) (fun _ _ => rfl) rfl (h.ok.lose i)⟩, h1.2.trans (h2.2.trans h3.2)⟩
  show (if j = i then [] else st.kp j key) = _
  by_cases hj2 : j = i
  · rw [if_pos hj2, hj2]
    have hk3 : key = 0 ∨ key = 1 ∨ key = 2 := by omega
    rcases hk3 with rfl | rfl | rfl
    · rw [St.set_far _ _ (by omega), St.set_far _ _ (by omega), St.set_at]
    · rw [St.set_far _ _ (by omega), St.set_at]
    · rw [St.set_at]
  · rw [if_neg hj2, St.set_far _ _ (by omega), St.set_far _ _ (by omega), St.set_far _ _ (by omega)]
end Go.Proofs.Ytioecklnijhjgaa
namespace Go.Proofs.Ytioecklnijhjgaa
open Go.RowKit

theorem kp_cells {w : World} {ao : Option Addr} {l : List Kp} (h : Reads w ao (kpCells l)) {k : Nat} (hk : k < l.length) :
    ∃ b o, ao = some ⟨b, o, none⟩ ∧ w.cell? ⟨b, o + k * 3, none⟩ = some (.int .i64 ((l[k]).1 : Int)) ∧ w.cell? ⟨b, o + k * 3 + 1, none⟩ = some (.int .i64 0) ∧ w.cell? ⟨b, o + k * 3 + 2, none⟩ = some (.string (l[k]).2) := by
  obtain ⟨g1, g2, g3⟩ := kpCells_get hk
  obtain ⟨b, o, rfl, c1⟩ := h _ _ g1
  obtain ⟨b2, o2, e2, c2⟩ := h _ _ g2
  obtain ⟨b3, o3, e3, c3⟩ := h _ _ g3
  cases e2; cases e3
  exact ⟨b, o, rfl, c1, by rw [Nat.add_assoc]; exact c2, by rw [Nat.add_assoc]; exact c3⟩
def IdxK (l : List Kp) (a : Nat) (r : Int) : Prop := (∃ (j : Nat) (x : Kp), l[j]? = some x ∧ x.1 = a ∧ r = j ∧ pick l a = x.2) ∨ ((∀ x ∈ l, x.1 ≠ a) ∧ r = -1 ∧ pick l a = ByteArray.empty)
theorem pick_at {l : List Kp} {a j : Nat} {x : Kp} (h : l[j]? = some x) (hx : x.1 = a) (hno : ∀ i y, i < j → l[i]? = some y → y.1 ≠ a) : pick l a = x.2 := by
  have : l.find? (fun x => x.1 == a) = some x := by
    induction l generalizing j with
    | nil => simp at h
    | cons y t ih =>
      cases j with
      | zero => simp at h; subst h; simp [hx]
      | succ j =>
        have hy := hno 0 y (by omega) rfl
        rw [List.find?_cons, show (y.1 == a) = false from by simpa using hy]
        exact ih (by simpa using h) (fun i z hi hz => hno (i + 1) z (by omega) (by simpa using hz))
  unfold pick
  rw [this]
theorem pick_no {l : List Kp} {a : Nat} (h : ∀ x ∈ l, x.1 ≠ a) : pick l a = ByteArray.empty := by
  have : l.find? (fun x => x.1 == a) = none := by
    rw [List.find?_eq_none]
    intro x hx
    simpa using h x hx
  unfold pick
  rw [this]
theorem find_clo (x : Nat) (s : ByteArray) (a bb : Nat) (W : World) (c0 : W.cell? ⟨bb, 0, none⟩ = some (.int .i64 (a : Int))) (c1 : W.cell? ⟨bb, 1, none⟩ = some (.int .i64 0)) :
    Calls Try.prog 74 #[.agg #[.int .i64 (x : Int), .int .i64 0, .string s], .pointer (some ⟨bb, 0, none⟩)] W (fun e w' => e = .returned (.bool (decide (x = a))) ∧ Below W.heap.size W w') := by
  have hlt := World.block_lt_of_cell? W _ c0
  have hba := below_alloc W (.cells #[.int .i64 (x : Int), .int .i64 0, .string s] 50)
  have e0 := (hba.cell (p := ⟨bb, 0, none⟩) hlt).trans c0
  have e1 := (hba.cell (p := ⟨bb, 1, none⟩) hlt).trans c1
  clear hba
  by_cases h : x = a
  · have t : ((x : Int) == (a : Int)) = true := by simp; omega
    have d : decide (x = a) = true := by simpa using h
    rw [d]
    have hb := Lib.hid (below_alloc W (.cells #[.int .i64 (x : Int), .int .i64 0, .string s] 50))
    clear h d
    go_enter Try.func74, Try.ntmps74
    go_wp2_with fail
    go_ret
    exact ⟨by simp, hb.out⟩
  · have t : ((x : Int) == (a : Int)) = false := by simp; omega
    have d : decide (x = a) = false := by simpa using h
    rw [d]
    have hb := Lib.hid (below_alloc W (.cells #[.int .i64 (x : Int), .int .i64 0, .string s] 50))
    clear h d
    go_enter Try.func74, Try.ntmps74
    go_wp2_with fail
    go_ret
    exact ⟨by simp, hb.out⟩
theorem run_find (x c : Value) (W : World) : (callFunc 74 #[x, c]).run Try.prog W = .ok (.enter 74 #[x, c]) W := by kernel_rfl
set_option maxRecDepth 20000 in
set_option maxHeartbeats 1000000 in
theorem index_kept (l : List Kp) (n a bb : Nat) (ao : Option Addr) (cap : Nat) (w : World) (hl : l.length = n) (hn : n ≤ 9223372036854775807) (hR : Hid (Reads w ao (kpCells l)))
    (c0 : w.cell? ⟨bb, 0, none⟩ = some (.int .i64 (a : Int))) (c1 : w.cell? ⟨bb, 1, none⟩ = some (.int .i64 0)) :
    Calls Try.prog 73 #[.slice ao n cap, .func (.func 74) #[] #[.pointer (some ⟨bb, 0, none⟩)]] w (fun e w' => ∃ r, e = .returned (.int .i64 r) ∧ IdxK l a r ∧ Below w.heap.size w w') := by
  have HL := Lib.hid hl
  have hfn := run_find
  have HBB : Hid (bb < w.heap.size) := Lib.hid (World.block_lt_of_cell? w _ c0)
  have HC0 := Lib.hid c0
  have HC1 := Lib.hid c1
  clear hl c0 c1
  go_enter Try.func73, Try.ntmps73
  go_wp2_with fail
  go_loopw [8] (fun vi wr => ∃ k : Nat, vi = .int .i64 k ∧ k ≤ n ∧ Hid (∀ i y, i < k → l[i]? = some y → y.1 ≠ a) ∧ Hid (Below w.heap.size w wr)) (fun vi _ => n - (intOf vi).toNat)
  case atStart => exact ⟨0, rfl, by omega, Lib.hid (by intro j y hj; omega), Lib.hid (Below.refl _ _)⟩
  case round =>
    obtain ⟨k, rfl, hk, hno, HB⟩ := hrel
    obtain ⟨wo, rfl⟩ : ∃ wo, wo = wr := ⟨_, rfl⟩
    by_cases hkl : k < n
    · obtain ⟨b, o, rfl, x0, x1, x2⟩ := kp_cells (hR.out.below HB.out) (k := k) (by rw [HL.out]; exact hkl)
      obtain ⟨x, hx⟩ : ∃ x, l[k]'(by rw [HL.out]; exact hkl) = x := ⟨_, rfl⟩
      have HX : Hid (l[k]? = some x) := Lib.hid (by rw [List.getElem?_eq_getElem (by rw [HL.out]; exact hkl), hx])
      rw [hx] at x0 x2
      obtain ⟨p, s⟩ := x
      have C := Lib.hid (find_clo p s a bb wo ((HB.out.cell (p := ⟨bb, 0, none⟩) HBB.out).trans HC0.out) ((HB.out.cell (p := ⟨bb, 1, none⟩) HBB.out).trans HC1.out))
      clear hx
      by_cases h : p = a
      · have d : decide (p = a) = true := by simpa using h
        rw [d] at C
        have H := Lib.hid h
        clear h d
        go_wp2_with fail
        (with_reducible refine C.out.mono ?_)
        rintro e w' ⟨rfl, hb⟩
        have HB1 := Lib.hid (HB.out.trans (hb.mono HB.out.size))
        clear hb
        go_wp2_with fail
        go_ret
        exact ⟨_, rfl, .inl ⟨k, (p, s), HX.out, H.out, rfl, pick_at HX.out H.out hno.out⟩, HB1.out⟩
      · have d : decide (p = a) = false := by simpa using h
        rw [d] at C
        have H := Lib.hid h
        clear h d
        go_wp2_with fail
        (with_reducible refine C.out.mono ?_)
        rintro e w' ⟨rfl, hb⟩
        have HB1 := Lib.hid (HB.out.trans (hb.mono HB.out.size))
        clear hb
        go_wp2_with fail
        go_roundw
        case rel => exact ⟨k + 1, by go_num, by omega, Lib.hid (by
          intro i y hi hy
          by_cases he : i = k
          · subst he; rw [HX.out] at hy; cases hy; exact H.out
          · exact hno.out i y (by omega) hy), HB1⟩
        case measure => simp [intOf]; omega
    · obtain rfl : n = k := by omega
      go_wp2_with fail
      go_ret
      have hall : ∀ x ∈ l, x.1 ≠ a := by
        intro x hx
        obtain ⟨j, hj⟩ := List.getElem?_of_mem hx
        have := (List.getElem?_eq_some_iff.1 hj).1
        exact hno.out j x (by have := HL.out; omega) hj
      exact ⟨_, rfl, .inr ⟨hall, rfl, pick_no hall⟩, HB.out⟩
def FindPost (s : ByteArray) (w : World) (e : Ending) (w' : World) : Prop := ∃ b, e = .returned (.tuple #[.string s, .bool b]) ∧ Below w.heap.size w w'
set_option maxRecDepth 20000 in
theorem store_find (l : List Kp) (n a : Nat) (ao : Option Addr) (cap : Nat) (w : World) (hl : l.length = n) (hn : n ≤ 9223372036854775807) (hR : Hid (Reads w ao (kpCells l))) :
    Calls Try.prog 57 #[.slice ao n cap, .agg #[.int .i64 (a : Int), .int .i64 0]] w (FindPost (pick l a) w) := by
  obtain ⟨W1, hW1⟩ : ∃ W1, w.alloc (.cells #[.int .i64 (a : Int), .int .i64 0] 38) = W1 := ⟨_, rfl⟩
  have hbel : Below w.heap.size w W1 := by rw [← hW1]; exact below_alloc _ _
  have c0 : W1.cell? ⟨w.heap.size, 0, none⟩ = some (.int .i64 (a : Int)) := by rw [← hW1]; simp [World.cell?_alloc_new]
  have c1 : W1.cell? ⟨w.heap.size, 1, none⟩ = some (.int .i64 0) := by rw [← hW1]; simp [World.cell?_alloc_new]
  have C := Lib.hid (index_kept l n a w.heap.size ao cap W1 hl hn (Lib.hid (hR.out.below hbel)) c0 c1)
  have HB := Lib.hid hbel
  have HL := Lib.hid hl
  clear hbel hl c0 c1
  go_enter Try.func57, Try.ntmps57
  go_wp2_with fail
  (with_reducible refine C.out.mono ?_)
  rintro e w2 ⟨r, rfl, hr, hb⟩
  have HB2 := Lib.hid (HB.out.trans (hb.mono HB.out.size))
  rcases hr with ⟨j, x, hx, hxa, rfl, hp⟩ | ⟨_, rfl, hp⟩
  · have hj := (List.getElem?_eq_some_iff.1 hx).1
    obtain ⟨b, o, rfl, x0, x1, x2⟩ := kp_cells (hR.out.below HB2.out) hj
    rw [(List.getElem?_eq_some_iff.1 hx).2] at x0 x2
    have HP := Lib.hid hp
    have hjn : j < n := by have := HL.out; omega
    clear hb hp hx hxa hj C
    go_wp2_with fail
    go_ret2
    exact ⟨true, by rw [HP.out]; rfl, HB2.out⟩
  · have HP := Lib.hid hp
    clear hb hp C
    go_wp2_with fail
    go_ret2
    exact ⟨false, by rw [HP.out]; rfl, HB2.out⟩
end Go.Proofs.Ytioecklnijhjgaa
