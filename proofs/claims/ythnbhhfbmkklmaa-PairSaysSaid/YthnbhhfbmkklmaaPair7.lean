/- The law's mendable; a bad call of Mend. -/
import Derived.Test.YthnbhhfbmkklmaaPair6a
import Derived.Test.YthnbhhfbmkklmaaPair6b
import Derived.Test.YthnbhhfbmkklmaaPair6c
import Derived.Test.YthnbhhfbmkklmaaPair4
import Derived.Laws.Strings
namespace Go.Proofs.Ythnbhhfbmkklmaa
open Go.RowKit

/-- A list told by a function. -/
def listOf (n : Nat) (F : Nat → ByteArray) : List ByteArray := (List.range n).map F
theorem listOf_len (n : Nat) (F : Nat → ByteArray) : (listOf n F).length = n := by simp [listOf]
theorem listOf_at {n : Nat} (F : Nat → ByteArray) {j : Nat} (h : j < n) : sAt (listOf n F) j = F j := by
  unfold sAt listOf
  rw [List.getD_eq_getElem?_getD]
  simp [h]
theorem listOf_row (n : Nat) (F : Nat → ByteArray) : (listOf n F).map Value.string = rowF n (fun j => .string (F j)) := by
  unfold listOf rowF
  rw [List.map_map]; rfl
theorem listOf_right {n m : Nat} {F : Nat → ByteArray} (h1 : 1 ≤ n) (h2 : n ≤ 10) (h3 : m ≤ 64) (hF : ∀ j, j < n → (F j).size = m) : Right (listOf n F) n m :=
  ⟨listOf_len n F, h1, h2, h3, fun i hi => by rw [listOf_at F hi]; exact hF i hi⟩
theorem chk_right {ss : List ByteArray} {n m : Nat} (h : Right ss n m) : chkP ss = 0 := by
  have h1 := h.len
  have h2 := h.n1
  have h3 := h.n10
  unfold chkP
  rw [if_neg (by omega), chkGo_zero]
  intro s hs
  obtain ⟨i, hi⟩ := List.getElem?_of_mem hs
  have hil := (List.getElem?_eq_some_iff.1 hi).1
  have e : sAt ss i = s := by unfold sAt; rw [List.getD_eq_getElem?_getD, hi]; rfl
  have h4 := h.all i (by omega)
  have h5 := h.all 0 (by omega)
  have h6 := h.m64
  rw [e] at h4
  exact ⟨by omega, by omega⟩
theorem str_ne {a b : ByteArray} (h : a ≠ b) : (a.toList == b.toList) = false := by
  rw [beq_eq_false_iff_ne]
  intro e
  rw [ByteArray.toList_eq, ByteArray.toList_eq] at e
  apply h
  obtain ⟨x⟩ := a
  obtain ⟨y⟩ := b
  congr 1
  exact Array.toList_inj.1 e
theorem str_eq {a b : ByteArray} (h : a = b) : (a.toList == b.toList) = true := by rw [h]; simp
theorem bytesOf_eq {m : Nat} {f : Nat → Nat} {s : ByteArray} (hs : s.size = m) (hf : ∀ k, k < m → f k < 256) : bytesOf m f = s ↔ ∀ k, k < m → f k = byteS s k := by
  constructor
  · intro h
    rw [← bytesOf_self hs] at h
    exact bytesOf_inj hf (fun k _ => byteS_lt _ _) h
  · intro h
    rw [← bytesOf_self hs]
    exact bytesOf_congr h
theorem cond0_iff {ss : List ByteArray} {n m : Nat} {p q : ByteArray} (hp : p.size = m) (hq : q.size = m) : (∀ k, k < m → cond0 ss n p q k) ↔ bytesOf m (fun k => xorN n (colP ss k)) = p ∧ bytesOf m (fun k => xorN n (wtd (colP ss k))) = q := by
  rw [bytesOf_eq hp (fun k _ => sum_lt _ _ _), bytesOf_eq hq (fun k _ => wsum_lt _ _ _)]
  constructor
  · intro h
    exact ⟨fun k hk => xor_zero_iff.1 (by have := (h k hk).1; unfold mA at this; rwa [left_nil] at this), fun k hk => xor_zero_iff.1 (by have := (h k hk).2; unfold mB at this; rwa [left_nil] at this)⟩
  · rintro ⟨h1, h2⟩ k hk
    exact ⟨by unfold mA; rw [left_nil]; exact xor_zero_iff.2 (h1 k hk), by unfold mB; rw [left_nil]; exact xor_zero_iff.2 (h2 k hk)⟩
/-- One block set anew: its parities. -/
theorem put_col {ss : List ByteArray} {n m : Nat} (hss : ss.length = n) {g : Nat} {f : Nat → Nat} {k : Nat} (hk : k < m) (hf : f k < 256) (i : Nat) (hi : i < n) : colP (listOf n fun j => if j = g then bytesOf m f else sAt ss j) k i = put1 (colP ss k) g (f k) i := by
  unfold colP put1
  rw [listOf_at _ hi]
  split
  · exact bytesOf_get hk hf
  · rfl
theorem put_sum {ss : List ByteArray} {n m : Nat} (hss : ss.length = n) {g : Nat} (hg : g < n) {f : Nat → Nat} {k : Nat} (hk : k < m) (hf : f k < 256) :
    xorN n (colP (listOf n fun j => if j = g then bytesOf m f else sAt ss j) k) = xorN n (left [(g : Int)] (colP ss k)) ^^^ f k := by
  rw [xorN_congr (g := put1 (colP ss k) g (f k)) (fun i hi => put_col hss hk hf i hi), put1_sum _ _ hg]
theorem put_wsum {ss : List ByteArray} {n m : Nat} (hss : ss.length = n) {g : Nat} (hg : g < n) {f : Nat → Nat} {k : Nat} (hk : k < m) (hf : f k < 256) :
    xorN n (wtd (colP (listOf n fun j => if j = g then bytesOf m f else sAt ss j) k)) = xorN n (left [(g : Int)] (wtd (colP ss k))) ^^^ gmul (f k) (gpow 2 g) := by
  rw [xorN_congr (g := wtd (put1 (colP ss k) g (f k))) (fun i hi => by unfold wtd; rw [put_col hss hk hf i hi]), wtd_put1, put1_sum _ _ hg]
set_option maxRecDepth 100000 in
set_option maxHeartbeats 2000000 in
theorem pair_Mend_bad (ss : List ByteArray) (n : Nat) (ao : Option Addr) (cap : Nat) (p q : ByteArray) (ln : Nat) (lo : Option Addr) (lc : Nat) (w : World) (E : Nat) (hE : E ≠ 0)
    (CL : Calls Try.prog 53 #[.slice ao n cap, .string p, .string q, .slice lo ln lc] w fun e w' => e = .returned (.int .i64 (E : Nat)) ∧ w = w') :
    Calls Try.prog 14 #[.slice ao n cap, .string p, .string q, .slice lo ln lc] w (MendNo E w) := by
  have HCL := Lib.hid CL
  have hz : ((E : Int) == 0) = false := by simp; omega
  clear CL
  go_enter Try.func14, Try.ntmps14
  go_wp2_with fail
  (with_reducible refine HCL.out.mono ?_)
  rintro e w1 ⟨rfl, rfl⟩
  go_wp2_with fail
  go_ret2
  exact ⟨rfl, Below.refl _ _⟩
def BoolB (b : Bool) (w : World) (e : Ending) (w' : World) : Prop := e = .returned (.bool b) ∧ Below w.heap.size w w'
set_option maxRecDepth 100000 in
set_option maxHeartbeats 2000000 in
theorem mendable0 (ss : List ByteArray) (n m : Nat) (ao : Option Addr) (cap : Nat) (p q : ByteArray) (lo : Option Addr) (lc : Nat) (w : World) (h0 : StrsIn w ao n ss) (hr : Right ss n m)
    (hp : p.size = m) (hq : q.size = m) (hN : ¬ ∀ k, k < m → cond0 ss n p q k) :
    Calls Try.prog 17 #[.slice ao n cap, .string p, .string q, .slice lo 0 lc] w (BoolB false w) := by
  have n10 := hr.n10
  have n1 := hr.n1
  rw [cond0_iff hp hq] at hN
  have HR := Lib.hid hr
  obtain ⟨b0, o0, s0, rfl, _, _⟩ := head_cell hr h0.2.2.2
  have CC := Lib.hid (clone_str n (ss.map Value.string) (some ⟨b0, o0, none⟩) cap w.heap.size w (by omega) (by rw [List.length_map]; exact hr.len) (fun h => by cases h) (Lib.hid h0.2.2.2) (Lib.hid one_str) (Nat.le_refl _))
  have hsl : Hid (ss.length = n) := Lib.hid hr.len
  clear h0 hr
  obtain ⟨X, hX⟩ : ∃ X, bytesOf m (fun k => xorN n (colP ss k)) = X := ⟨_, rfl⟩
  obtain ⟨Y, hY⟩ : ∃ X, bytesOf m (fun k => xorN n (wtd (colP ss k))) = X := ⟨_, rfl⟩
  rw [hX, hY] at hN
  have CP : Hid (∀ (ao : Option Addr) (cap : Nat) (W : World), Reads W ao (ss.map Value.string) → Calls Try.prog 15 #[.slice ao n cap] W fun e w' => e = .returned (.tuple #[.string X, .string Y, .int .i64 0]) ∧ Below W.heap.size W w') := Lib.hid (fun ao cap W h => by
    have := ref_PairOf ss n m ao cap W HR.out (Lib.hid h)
    unfold PutPost at this
    rwa [hX, hY] at this)
  clear hX hY
  go_enter Try.func17, Try.ntmps17
  go_wp2_with fail
  (with_reducible refine CC.out.mono ?_)
  rintro e w2 ⟨v2, rfl, hO2, hb2⟩
  obtain ⟨a2, c2, rfl, hR2, _, _⟩ := own_reads hO2
  have HR2 := Lib.hid hR2
  have HB2 := Lib.hid hb2
  clear hO2 hR2 hb2
  go_wp2_with fail
  (with_reducible refine (CP.out _ _ _ HR2.out).mono ?_)
  rintro e w3 ⟨rfl, hb3⟩
  have hb4 := Lib.hid (HB2.out.trans (hb3.mono HB2.out.size))
  clear hb3
  by_cases hx : X = p
  · have hy : Y ≠ q := fun h => hN ⟨hx, h⟩
    have t1 := str_eq hx
    have t2 := str_ne hy
    clear hN hx hy
    go_wp2_with fail
    go_ret
    exact ⟨rfl, hb4.out⟩
  · have t1 := str_ne hx
    clear hN hx
    go_wp2_with fail
    go_ret
    exact ⟨rfl, hb4.out⟩
/-- Cells that may be written, whatever the block's mark. -/
def RowC (w : World) (g m : Nat) (f : Nat → Value) : Prop := ∀ j, j < m → w.cell? ⟨g, j, none⟩ = some (f j) ∧ w.frozen? ⟨g, j, none⟩ = false
theorem RowC.store {w : World} {g m : Nat} {f : Nat → Value} (h : RowC w g m f) {i : Nat} (hi : i < m) (u : Value) : RowC (w.setCell ⟨g, i, none⟩ u) g m (fun j => if j = i then u else f j) := by
  intro j hj
  by_cases hji : j = i
  · subst hji
    refine ⟨?_, by rw [World.frozen?_setCell]; exact (h j hj).2⟩
    show _ = some (if j = j then u else f j)
    rw [if_pos rfl]
    exact World.cell?_setCell_same' _ _ _ (by rw [(h j hj).1]; rfl)
  · refine ⟨?_, by rw [World.frozen?_setCell]; exact (h j hj).2⟩
    show _ = some (if j = i then u else f j)
    rw [if_neg hji, World.cell?_setCell_other _ _ _ _ (by intro e; injection e with e1 e2; omega)]
    exact (h j hj).1
theorem RowC.drew {w : World} {g m : Nat} {f : Nat → Value} (h : RowC w g m f) (k : Nat) : RowC (w.drewN k) g m f := h
theorem RowC.reads {w : World} {g m : Nat} {f : Nat → Value} (h : RowC w g m f) : Reads w (some ⟨g, 0, none⟩) (rowF m f) := by
  intro j u hu
  have hj : j < m := by have := (List.getElem?_eq_some_iff.1 hu).1; rwa [rowF_length] at this
  rw [rowF_get f hj] at hu
  cases hu
  exact ⟨g, 0, rfl, by rw [Nat.zero_add]; exact (h j hj).1⟩
theorem RowC.congr {w : World} {g m : Nat} {f f' : Nat → Value} (h : RowC w g m f) (hf : ∀ j, j < m → f j = f' j) : RowC w g m f' := fun j hj => by rw [← hf j hj]; exact h j hj
theorem rowC_of_string (w : World) (s : ByteArray) (cap : Nat) : RowC (w.alloc (.cells (bytesRow s cap) 5 ((bytesRow s cap).size, (bytesRow s cap).size + 1))) w.heap.size s.size (fun j => .int .u8 (byteS s j : Nat)) := by
  intro j hj
  have hsz : s.size ≤ (bytesRow s cap).size := by
    unfold bytesRow
    rw [Array.size_append, Array.size_map]
    exact Nat.le_add_right _ _
  refine ⟨?_, ?_⟩
  · rw [World.cell?_alloc_mark, bytesRow_at s cap j hj]
    congr 2
    have e := byteS_get s j hj
    have e2 : s.data[j].toNat = byteS s j := e
    rw [e2]
  · rw [World.frozen?_alloc_mark]
    have : ¬ (bytesRow s cap).size ≤ j := by omega
    simp [this]
theorem setCell_grown (w : World) (g i : Nat) (u : Value) : w.grownBy (w.setCell ⟨g, i, none⟩ u) (some g) := by
  have h := below_set (B := g) (j := i) (Below.refl w.heap.size w)
  refine ⟨rfl, rfl, rfl, by simp, fun k hk hne => heap_set_far u (fun e => hne (by rw [e]))⟩
set_option maxRecDepth 100000 in
set_option maxHeartbeats 4000000 in
theorem mendable1 (ss : List ByteArray) (n m : Nat) (ao : Option Addr) (cap : Nat) (p q : ByteArray) (g : Nat) (hg : g < n) (lo : Option Addr) (lc : Nat) (w : World) (h0 : StrsIn w ao n ss) (hr : Right ss n m)
    (hp : p.size = m) (hq : q.size = m) (hLr : Reads w lo (([(g : Int)] : List Int).map (Value.int .i64))) (hN : ¬ ∀ k, k < m → cond1 ss n p q g k) :
    Calls Try.prog 17 #[.slice ao n cap, .string p, .string q, .slice lo 1 lc] w (BoolB false w) := by
  subst hp
  have n10 := hr.n10
  have n1 := hr.n1
  have m64 := hr.m64
  have HR := Lib.hid hr
  obtain ⟨b0, o0, s0, rfl, _, _⟩ := head_cell hr h0.2.2.2
  obtain ⟨lb, lof, rfl, lc0⟩ := lost_at hLr (i := 0) (a := (g : Int)) rfl
  rw [Nat.add_zero] at lc0
  have CC := Lib.hid (clone_str n (ss.map Value.string) (some ⟨b0, o0, none⟩) cap w.heap.size w (by omega) (by rw [List.length_map]; exact hr.len) (fun h => by cases h) (Lib.hid h0.2.2.2) (Lib.hid one_str) (Nat.le_refl _))
  have hsl : Hid (ss.length = n) := Lib.hid hr.len
  have hall := Lib.hid hr.all
  have MK := mk_u8 p.size (by omega)
  clear h0 hr hLr
  -- the two lists that are laid in it
  obtain ⟨Z, hZ⟩ : ∃ Z, bytesOf p.size (fun _ => 0) = Z := ⟨_, rfl⟩
  obtain ⟨PB, hPB⟩ : ∃ Z, bytesOf p.size (fun k => mA ss n p [(g : Int)] k) = Z := ⟨_, rfl⟩
  have R1 : Hid (Right (listOf n fun j => if j = g then Z else sAt ss j) n p.size) := Lib.hid (listOf_right n1 n10 m64 fun j hj => by
    show (if j = g then Z else sAt ss j).size = p.size
    split
    · rw [← hZ]; exact bytesOf_size _ _
    · exact hall.out j hj)
  have R2 : Hid (Right (listOf n fun j => if j = g then PB else sAt ss j) n p.size) := Lib.hid (listOf_right n1 n10 m64 fun j hj => by
    show (if j = g then PB else sAt ss j).size = p.size
    split
    · rw [← hPB]; exact bytesOf_size _ _
    · exact hall.out j hj)
  obtain ⟨X1, hX1⟩ : ∃ X, bytesOf p.size (fun k => xorN n (colP (listOf n fun j => if j = g then Z else sAt ss j) k)) = X := ⟨_, rfl⟩
  obtain ⟨Y1, hY1⟩ : ∃ X, bytesOf p.size (fun k => xorN n (wtd (colP (listOf n fun j => if j = g then Z else sAt ss j) k))) = X := ⟨_, rfl⟩
  obtain ⟨Y2, hY2⟩ : ∃ X, bytesOf p.size (fun k => xorN n (wtd (colP (listOf n fun j => if j = g then PB else sAt ss j) k))) = X := ⟨_, rfl⟩
  have hX1k : ∀ k, k < p.size → byteS X1 k = xorN n (left [(g : Int)] (colP ss k)) := fun k hk => by
    rw [← hX1, bytesOf_get hk (sum_lt _ _ _), ← hZ, put_sum hsl.out hg hk (by omega), Nat.xor_zero]
  have hX1s : X1.size = p.size := by rw [← hX1]; exact bytesOf_size _ _
  have hX2 : bytesOf p.size (fun k => xorN n (colP (listOf n fun j => if j = g then PB else sAt ss j) k)) = p := by
    rw [bytesOf_eq rfl (fun k _ => sum_lt _ _ _)]
    intro k hk
    rw [← hPB, put_sum hsl.out hg hk (mA_lt _ _ _ _ _)]
    unfold mA
    rw [← Nat.xor_assoc, Nat.xor_self, Nat.zero_xor]
  have hYq : Y2 ≠ q := fun e => hN (fun k hk => by
    rw [← hY2, bytesOf_eq hq (fun k _ => wsum_lt _ _ _)] at e
    have h2 := e k hk
    rw [← hPB, put_wsum hsl.out hg hk (mA_lt _ _ _ _ _)] at h2
    show gmul _ _ = mB ss n q [(g : Int)] k
    exact xor_eq_iff.1 h2)
  have CP1 : Hid (∀ (ao : Option Addr) (cap : Nat) (W : World), Reads W ao ((listOf n fun j => if j = g then Z else sAt ss j).map Value.string) → Calls Try.prog 15 #[.slice ao n cap] W fun e w' => e = .returned (.tuple #[.string X1, .string Y1, .int .i64 0]) ∧ Below W.heap.size W w') := Lib.hid (fun ao cap W h => by
    have := ref_PairOf _ n p.size ao cap W R1.out (Lib.hid h)
    unfold PutPost at this
    rwa [hX1, hY1] at this)
  have CP2 : Hid (∀ (ao : Option Addr) (cap : Nat) (W : World), Reads W ao ((listOf n fun j => if j = g then PB else sAt ss j).map Value.string) → Calls Try.prog 15 #[.slice ao n cap] W fun e w' => e = .returned (.tuple #[.string p, .string Y2, .int .i64 0]) ∧ Below W.heap.size W w') := Lib.hid (fun ao cap W h => by
    have := ref_PairOf _ n p.size ao cap W R2.out (Lib.hid h)
    unfold PutPost at this
    rwa [hX2, hY2] at this)
  have t1 := str_eq (rfl : p = p)
  have t2 := str_ne hYq
  rw [listOf_row] at CP1 CP2
  have HZ := Lib.hid hZ
  have HPB := Lib.hid hPB
  have HX1k := Lib.hid hX1k
  have HQ := Lib.hid hq
  have BS := run_bytes_of_string (P := Try.prog)
  clear hX1 hY1 hX2 hY2 hYq hN hZ hPB hX1k hq BS
  have cz : ∀ W a c, Reads W (some a) (rowF p.size fun _ => .int .u8 ((0 : Nat) : Int)) → (convert 101 9 (.slice (some a) p.size c)).run Try.prog W = .ok (.string Z) W := fun W a c h => by
    have := conv_back p.size (fun _ => 0) (some a) c W (fun _ _ => by omega) (fun h => by cases h) h
    rwa [HZ.out] at this
  have HCZ := Lib.hid cz
  clear cz
  go_enter Try.func17, Try.ntmps17
  go_wp2_with fail
  (with_reducible refine CC.out.mono ?_)
  rintro e w2 ⟨v2, rfl, hO2, hb2⟩
  rw [strRow, hsl.out] at hO2
  obtain ⟨g0, cap0, rfl⟩ := own_form hO2 (fun h => by have := congrArg List.length h; rw [rowF_length] at this; simp at this; omega)
  have O0 : Own w2 w.heap.size 9 g0 n cap0 (fun j => .string (sAt ss j)) := hO2
  have lc2 := (hb2.cell (World.block_lt_of_cell? w _ lc0)).trans lc0
  have HB2 := Lib.hid hb2
  have HO0 := Lib.hid O0
  clear hO2 hb2 O0
  go_wp2_with fail
  obtain ⟨S, hS⟩ : ∃ S, w2.heap.size = S := ⟨_, rfl⟩
  have k1 := HCZ.out (w2.alloc (.cells (rowF p.size (fun _ => Value.int .u8 0)).toArray 5)) ⟨S, 0, none⟩ p.size (by rw [← hS]; exact reads_new w2 _ _)
  have k2 := HCZ.out (w2.alloc (.cells (rowF p.size (fun _ => Value.int .u8 0)).toArray 5)).drew ⟨S, 0, none⟩ p.size (by rw [← hS]; exact reads_new w2 _ _)
  have c0 := HO0.out.cell hg
  have c0f := HO0.out.frozen g
  have j0 : (0 : Int) ≤ (g : Int) := by omega
  have j1 : (g : Int) < (n : Int) := by omega
  have hb3 : Below w2.heap.size w2 (w2.alloc (.cells (rowF p.size (fun _ => Value.int .u8 0)).toArray 5)) := (Below.refl _ _).alloc (Nat.le_refl _) _
  have HO3 := Lib.hid (HO0.out.below hb3)
  have lc3 := (hb3.cell (World.block_lt_of_cell? w2 _ lc2)).trans lc2
  have c3 := HO3.out.cell hg
  have c3f := HO3.out.frozen g
  have A4 := HO3.out.store g (.string Z)
  have O4 : Own ((w2.alloc (.cells (rowF p.size (fun _ => Value.int .u8 0)).toArray 5)).setCell ⟨g0, g, none⟩ (.string Z)) w.heap.size 9 g0 n cap0 (fun j => .string (if j = g then Z else sAt ss j)) := A4.1.congr fun j _ => by split <;> rfl
  have HO4 := Lib.hid O4
  have HB4 := Lib.hid (HO3.out.belowStore (HB2.out.trans (hb3.mono HB2.out.size)) (Nat.le_refl _) g (.string Z))
  clear hb3 A4 O4
  go_region
  obtain ⟨W5, hW5⟩ : ∃ W5, ((w2.alloc (.cells (rowF p.size (fun _ => Value.int .u8 0)).toArray 5)).setCell ⟨g0, g, none⟩ (.string Z)).drew = W5 := ⟨_, rfl⟩
  have O5 : Own W5 w.heap.size 9 g0 n cap0 (fun j => .string (if j = g then Z else sAt ss j)) := by rw [← hW5]; exact HO4.out.below (below_dr _ _ 1)
  have B5 : Below w.heap.size w W5 := by rw [← hW5]; exact below_drew1 HB4.out
  try rw [hW5]
  have HO5 := Lib.hid O5
  have HB5 := Lib.hid B5
  clear hW5 O5 B5 HO4 HB4 HO3 k1 k2 c3 c3f c0 c0f hS HO0 HB2 lc2 lc3
  go_wp2_with fail
  (with_reducible refine (CP1.out _ _ _ HO5.out.reads).mono ?_)
  rintro e w6 ⟨rfl, hb6⟩
  have HO6 := Lib.hid (HO5.out.below hb6)
  have HB6 := Lib.hid (HB5.out.trans (hb6.mono HB5.out.size))
  clear HO5 HB5 hb6
  have BS := run_bytes_of_string (P := Try.prog) w6 9 101 5 p Try.underlying9 Try.underlying101 Try.underlying5
  obtain ⟨gc, hgc⟩ : ∃ gc, grownCap w6 p.size 0 5 = gc := ⟨_, rfl⟩
  rw [hgc] at BS
  obtain ⟨gb, hgb⟩ : ∃ gb, w6.heap.size = gb := ⟨_, rfl⟩
  have RC : RowC (w6.drew.alloc (.cells (bytesRow p gc) 5 ((bytesRow p gc).size, (bytesRow p gc).size + 1))) gb p.size (fun j => .int .u8 (byteS p j : Nat)) := by rw [← hgb]; exact rowC_of_string w6.drew p gc
  have B7 : Below w6.heap.size w6 (w6.drew.alloc (.cells (bytesRow p gc) 5 ((bytesRow p gc).size, (bytesRow p gc).size + 1))) := (below_dr _ _ 1).alloc (Nat.le_refl _) _
  obtain ⟨W7, hW7⟩ : ∃ W7, w6.drew.alloc (.cells (bytesRow p gc) 5 ((bytesRow p gc).size, (bytesRow p gc).size + 1)) = W7 := ⟨_, rfl⟩
  rw [hW7] at BS RC B7
  rw [hgb] at BS
  have O7 := HO6.out.below B7
  have lgb : g0 < gb := by rw [← hgb]; exact HO6.out.lt.2
  have wgb : w.heap.size ≤ gb := by rw [← hgb]; exact HB6.out.size
  have HRC : Hid (RowC W7 gb p.size (fun j => .int .u8 ((if j < 0 then mA ss n p [(g : Int)] j else byteS p j : Nat) : Int))) := Lib.hid (RC.congr fun j _ => by rw [if_neg (by omega)])
  have HO7 := Lib.hid O7
  have HB7 := Lib.hid (HB6.out.trans (B7.mono HB6.out.size))
  clear RC B7 hW7 O7 hgc hgb HO6 HB6
  go_wp2_with fail
  clear BS
  go_loopw [45] (fun vi wr => ∃ i : Nat, vi = .int .i64 i ∧ i ≤ p.size ∧ Hid (RowC wr gb p.size (fun j => .int .u8 ((if j < i then mA ss n p [(g : Int)] j else byteS p j : Nat) : Int))) ∧ Hid (Own wr w.heap.size 9 g0 n cap0 (fun j => .string (if j = g then Z else sAt ss j))) ∧ Hid (Below w.heap.size w wr)) (fun vi _ => p.size - (intOf vi).toNat)
  case atStart => exact ⟨0, rfl, by omega, HRC, HO7, HB7⟩
  case round =>
    clear HRC HO7 HB7
    obtain ⟨i, rfl, hi, HRC, HO7, HB7⟩ := hrel
    obtain ⟨wo, rfl⟩ : ∃ wo, wo = wr := ⟨_, rfl⟩
    by_cases hip : i < p.size
    · have q1 := (HRC.out i hip).1
      have q2 := (HRC.out i hip).2
      simp only [Nat.lt_irrefl, if_false] at q1
      obtain ⟨a, ha⟩ : ∃ a, byteS p i = a := ⟨_, rfl⟩
      have hab : a < 256 := by rw [← ha]; exact byteS_lt _ _
      rw [ha] at q1
      have hix : i < X1.size := by rw [hX1s]; exact hip
      have hx := byteS_get X1 i hix
      have hx2 := HX1k.out i hip
      have ex : bits .xor .u8 (a : Int) (X1[i].toNat : Int) = ((mA ss n p [(g : Int)] i : Nat) : Int) := by
        rw [hx, u8_xor_nat a _ hab (byteS_lt _ _), hx2, ← ha]
        unfold mA
        rw [Nat.xor_comm]
      obtain ⟨y, hy⟩ : ∃ y, mA ss n p [(g : Int)] i = y := ⟨_, rfl⟩
      rw [hy] at ex
      have RC2 : RowC (wo.setCell ⟨gb, i, none⟩ (.int .u8 (y : Int))) gb p.size (fun j => .int .u8 ((if j < i + 1 then mA ss n p [(g : Int)] j else byteS p j : Nat) : Int)) := (HRC.out.store hip (.int .u8 (y : Int))).congr fun j _ => upd_row (F := fun j => mA ss n p [(g : Int)] j) (G := fun j => byteS p j) hy j
      have O2 : Own (wo.setCell ⟨gb, i, none⟩ (.int .u8 (y : Int))) w.heap.size 9 g0 n cap0 (fun j => .string (if j = g then Z else sAt ss j)) := HO7.out.kept (setCell_grown wo gb i _) (by omega)
      have B2 : Below w.heap.size w (wo.setCell ⟨gb, i, none⟩ (.int .u8 (y : Int))) := below_set HB7.out wgb _
      have HRC2 := Lib.hid RC2
      have HO2 := Lib.hid O2
      have HB2 := Lib.hid B2
      have i0 : (0 : Int) ≤ (i : Int) := by omega
      have i1 : (i : Int) < (p.size : Int) := by omega
      clear ha hx hx2 hy RC2 O2 B2
      go_wp2_with fail
      go_region
      go_wp2_with fail
      go_roundw
      case rel => exact ⟨i + 1, by go_num, by omega, Lib.hid (HRC2.out.drew 1), Lib.hid (HO2.out.below (below_dr _ _ 1)), Lib.hid (below_drew1 HB2.out)⟩
      case measure => simp [intOf]; omega
    · obtain rfl : i = p.size := by omega
      have RR := (HRC.out.congr (f' := fun j => .int .u8 ((mA ss n p [(g : Int)] j : Nat) : Int)) fun j hj => by rw [if_pos hj]).reads
      have k1 := conv_back p.size (fun j => mA ss n p [(g : Int)] j) (some ⟨gb, 0, none⟩) gc wo (fun _ _ => mA_lt _ _ _ _ _) (fun h => by cases h) RR
      have k2 := conv_back p.size (fun j => mA ss n p [(g : Int)] j) (some ⟨gb, 0, none⟩) gc wo.drew (fun _ _ => mA_lt _ _ _ _ _) (fun h => by cases h) RR
      rw [HPB.out] at k1 k2
      have c0 := HO7.out.cell hg
      have c0f := HO7.out.frozen g
      have lc9 := (HB7.out.cell (World.block_lt_of_cell? w _ lc0)).trans lc0
      have A4 := HO7.out.store g (.string PB)
      have O4 : Own (wo.setCell ⟨g0, g, none⟩ (.string PB)) w.heap.size 9 g0 n cap0 (fun j => .string (if j = g then PB else sAt ss j)) := A4.1.congr fun j _ => by split <;> rfl
      have HO4 := Lib.hid O4
      have HB4 := Lib.hid (HO7.out.belowStore HB7.out (Nat.le_refl _) g (.string PB))
      clear A4 O4 RR HRC HO7 HB7
      go_wp2_with fail
      go_region
      go_wp2_with fail
      have HRD := Lib.hid (show Reads (wo.setCell ⟨g0, g, none⟩ (.string PB)).drew (some ⟨g0, 0, none⟩) (rowF n fun j => .string (if j = g then PB else sAt ss j)) from (HO4.out.below (below_dr _ _ 1)).reads)
      (with_reducible refine (CP2.out (some ⟨g0, 0, none⟩) cap0 (wo.setCell ⟨g0, g, none⟩ (.string PB)).drew HRD.out).mono ?_)
      rintro e w9 ⟨rfl, hb9⟩
      have hbel := Lib.hid ((below_drew1 HB4.out).trans (hb9.mono (below_drew1 HB4.out).size))
      clear hb9
      go_wp2_with fail
      go_ret
      exact ⟨rfl, hbel.out⟩
end Go.Proofs.Ythnbhhfbmkklmaa
