/- Strings and their bytes; rows of bytes; the conversions. Laws over this program's types alone. -/
import Derived.Test.YtioecklnijhjgaaRows
import Derived.Test.YtioecklnijhjgaaPlM2
import Derived.Laws.IdiomStrings
import Derived.Laws.Strings
import Derived.Deep.RegionHeld
import Derived.Deep.QuietTactic
import Derived.BigQuiet
set_option linter.unusedVariables false
set_option linter.unusedSimpArgs false
namespace Go.Proofs.Ytioecklnijhjgaa
open Go.RowKit

def sAt (ss : List ByteArray) (i : Nat) : ByteArray := ss.getD i ByteArray.empty
def byteS (s : ByteArray) (k : Nat) : Nat := (s.data.toList.getD k 0).toNat
theorem byteS_lt (s : ByteArray) (k : Nat) : byteS s k < 256 := UInt8.toNat_lt _
theorem byteS_get (s : ByteArray) (k : Nat) (h : k < s.size) : s[k].toNat = byteS s k := by
  unfold byteS
  rw [List.getD_eq_getElem?_getD, List.getElem?_eq_getElem (by simpa using h)]
  simp
  rfl
theorem drop_at {ss : List ByteArray} {k : Nat} (h : k < ss.length) : ss.drop k = sAt ss k :: ss.drop (k + 1) := by
  rw [List.drop_eq_getElem_cons h]
  congr 1
  unfold sAt
  rw [List.getD_eq_getElem?_getD, List.getElem?_eq_getElem h]; rfl
theorem str_at {ss : List ByteArray} {k : Nat} (h : k < ss.length) : (ss.map Value.string)[k]? = some (.string (sAt ss k)) := by
  rw [List.getElem?_map, List.getElem?_eq_getElem h]
  unfold sAt
  rw [List.getD_eq_getElem?_getD, List.getElem?_eq_getElem h]; rfl
theorem sAt_mem {ss : List ByteArray} {k : Nat} (h : k < ss.length) : sAt ss k ∈ ss := by
  unfold sAt
  rw [List.getD_eq_getElem?_getD, List.getElem?_eq_getElem h]
  exact List.getElem_mem _
theorem u8InfoP : ElemRow Try.prog 5 (.int .u8 0) 1 1 := elemRow_of (by kernel_rfl) rfl (by omega)
/-- make([]byte, m): the run. -/
theorem mk_u8 (m : Nat) (hm : m ≤ 1000000) (W : World) : (Instr.makeSlice 73 (.int .i64 (m : Int)) (.int .i64 (m : Int))).run Try.prog W = .ok (.slice (some ⟨W.heap.size, 0, none⟩) m m) (W.alloc (.cells (rowF m (fun _ => Value.int .u8 0)).toArray 5)) := by
  obtain ⟨i, hi, hz, hsize, hby, hzs, hsz⟩ := u8InfoP
  have h := run_make (P := Try.prog) W 73 5 i _ Try.underlying73 hi hz .i64 .i64 (m : Int) (m : Int) (by omega) (Int.le_refl _) (by rw [hby]; omega) (by omega)
  rw [h]
  have e : madeCells (Value.int .u8 0).cells ((m : Int).toNat * i.size) = (rowF m (fun _ => Value.int .u8 0)).toArray := by
    rw [hsize, Nat.mul_one]
    apply Array.toList_inj.1
    have := toList_madeCells_one (Value.int .u8 0) m
    rw [replicate_rowF] at this
    exact this
  rw [e]
  simp
theorem own_A (m : Nat) (w : World) (hm : m ≤ maxLen := by unfold maxLen; omega) : Own ((w.alloc (.cells (rowF m (fun _ => Value.int .u8 0)).toArray 5)).alloc (.cells (rowF m (fun _ => Value.int .u8 0)).toArray 5)).drew w.heap.size 5 w.heap.size m m (fun _ => .int .u8 0) := by
  have h := own_lit w w.heap.size 5 (rowF m (fun _ => Value.int .u8 0)) (Nat.le_refl _) (by rw [rowF_length]; exact hm)
  rw [rowF_length] at h
  exact own_below (own_below h ((Below.refl _ _).alloc (Nat.le_refl _) _)) (below_dr _ _ 1)
theorem own_B (m : Nat) (w : World) (hm : m ≤ maxLen := by unfold maxLen; omega) : Own ((w.alloc (.cells (rowF m (fun _ => Value.int .u8 0)).toArray 5)).alloc (.cells (rowF m (fun _ => Value.int .u8 0)).toArray 5)).drew w.heap.size 5 (w.heap.size + 1) m m (fun _ => .int .u8 0) := by
  have h := own_lit (w.alloc (.cells (rowF m (fun _ => Value.int .u8 0)).toArray 5)) w.heap.size 5 (rowF m (fun _ => Value.int .u8 0)) (by simp) (by rw [rowF_length]; exact hm)
  rw [rowF_length, World.size_alloc] at h
  exact own_below h (below_dr _ _ 1)
theorem upd_row {F G : Nat → Nat} {k y : Nat} (h : F k = y) (j : Nat) : (if j = k then Value.int .u8 (y : Int) else .int .u8 ((if j < k then F j else G j : Nat) : Int)) = .int .u8 ((if j < k + 1 then F j else G j : Nat) : Int) := by
  by_cases h1 : j = k
  · subst h1; rw [if_pos rfl, if_pos (by omega), h]
  · rw [if_neg h1]
    by_cases h2 : j < k
    · rw [if_pos h2, if_pos (by omega)]
    · rw [if_neg h2, if_neg (by omega)]
def bytesOf (m : Nat) (f : Nat → Nat) : ByteArray := ⟨((List.range m).map fun k => UInt8.ofNat (f k)).toArray⟩
theorem bytesOf_size (m : Nat) (f : Nat → Nat) : (bytesOf m f).size = m := by simp [bytesOf, ByteArray.size]
theorem bytesOf_get {m : Nat} {f : Nat → Nat} {k : Nat} (hk : k < m) (hf : f k < 256) : byteS (bytesOf m f) k = f k := by
  unfold byteS bytesOf
  rw [List.getD_eq_getElem?_getD]
  simp [hk]
  omega
theorem bytesOf_congr {m : Nat} {f g : Nat → Nat} (h : ∀ k, k < m → f k = g k) : bytesOf m f = bytesOf m g := by
  unfold bytesOf
  congr 2
  exact List.map_congr_left fun k hk => by rw [h k (List.mem_range.1 hk)]
theorem bytesOf_self {s : ByteArray} {m : Nat} (h : s.size = m) : bytesOf m (byteS s) = s := by
  obtain ⟨d⟩ := s
  unfold bytesOf
  congr 1
  apply Array.toList_inj.1
  apply List.ext_getElem?
  intro k
  have hd : d.size = m := h
  by_cases hk : k < m
  · have h2 : k < d.size := by omega
    simp [byteS, hk, h2]
  · have h2 : ¬ k < d.size := by omega
    simp [byteS, hk, h2]
theorem bytesOf_inj {m : Nat} {f g : Nat → Nat} (hf : ∀ k, k < m → f k < 256) (hg : ∀ k, k < m → g k < 256) (h : bytesOf m f = bytesOf m g) : ∀ k, k < m → f k = g k := by
  intro k hk
  rw [← bytesOf_get hk (hf k hk), h, bytesOf_get hk (hg k hk)]
theorem conv_back (m : Nat) (f : Nat → Nat) (ao : Option Addr) (cap : Nat) (W : World) (hf : ∀ k, k < m → f k < 256) (hn : ao = none → m = 0) (hR : Reads W ao (rowF m fun k => .int .u8 (f k : Nat))) :
    (convert 73 9 (.slice ao m cap)).run Try.prog W = .ok (.string (bytesOf m f)) W := by
  cases ao with
  | none =>
    obtain rfl := hn rfl
    rw [run_convert_bytes_string W 73 9 5 none 0 cap Try.underlying73 Try.underlying5 Try.underlying9]
    rfl
  | some a =>
    have h := run_convert_bytes_back (P := Try.prog) W 73 9 5 a cap ((List.range m).map fun k => UInt8.ofNat (f k)) Try.underlying73 Try.underlying5 Try.underlying9 ?_
    · simp only [List.length_map, List.length_range] at h
      exact h
    · intro j hj
      simp only [List.length_map, List.length_range] at hj
      obtain ⟨b, o, ha, hc⟩ := hR j _ (rowF_get _ hj)
      cases ha
      rw [Addr.add_lit, hc]
      have := hf j hj
      simp
      omega
def rowB (m : Nat) (f : Nat → Nat) : List Value := rowF m fun k => .int .u8 (f k : Nat)
theorem rowB_succ (m : Nat) (f : Nat → Nat) : rowB (m + 1) f = rowB m f ++ [.int .u8 (f m : Nat)] := rowF_succ _ _
theorem rowB_length (m : Nat) (f : Nat → Nat) : (rowB m f).length = m := rowF_length _ _
theorem own_cap6 {w : World} {base e size : Nat} {ao : Option Addr} {n m cap : Nat} {xs : List Value} (h : w.ownsRow base e size (.slice ao n cap) m xs) : n ≤ cap ∧ cap ≤ maxLen := by
  rcases h.2 with ⟨hv, _⟩ | ⟨g, c, cur, hv, _, _, h1, h2, _⟩
  · cases hv; exact ⟨Nat.le_refl _, by unfold maxLen; omega⟩
  · cases hv; exact ⟨h1, h2⟩
theorem own_A' (base m : Nat) (w : World) (hb : base ≤ w.heap.size) (hm : m ≤ 1000000) : Own ((w.alloc (.cells (rowF m (fun _ => Value.int .u8 0)).toArray 5)).alloc (.cells (rowF m (fun _ => Value.int .u8 0)).toArray 5)).drew base 5 w.heap.size m m (fun _ => .int .u8 0) :=
  own_mono (own_A m w (by unfold maxLen; omega)) hb
theorem own_B' (base m : Nat) (w : World) (hb : base ≤ w.heap.size) (hm : m ≤ 1000000) : Own ((w.alloc (.cells (rowF m (fun _ => Value.int .u8 0)).toArray 5)).alloc (.cells (rowF m (fun _ => Value.int .u8 0)).toArray 5)).drew base 5 (w.heap.size + 1) m m (fun _ => .int .u8 0) :=
  own_mono (own_B m w (by unfold maxLen; omega)) hb
theorem strRow (ss : List ByteArray) : ss.map Value.string = rowF ss.length (fun j => .string (sAt ss j)) := map_rowF ss Value.string ByteArray.empty
theorem one_str {ss : List ByteArray} : ∀ u ∈ ss.map Value.string, u.oneCell' = true := by
  intro u hu
  obtain ⟨s, _, rfl⟩ := List.mem_map.1 hu
  rfl
/-- A list told by a function. -/
def listOf (n : Nat) (F : Nat → ByteArray) : List ByteArray := (List.range n).map F
theorem listOf_len (n : Nat) (F : Nat → ByteArray) : (listOf n F).length = n := by simp [listOf]
theorem listOf_at {n : Nat} (F : Nat → ByteArray) {j : Nat} (h : j < n) : sAt (listOf n F) j = F j := by
  unfold sAt listOf
  rw [List.getD_eq_getElem?_getD]
  simp [h]
theorem listOf_row (n : Nat) (F : Nat → ByteArray) : (listOf n F).map Value.string = rowF n (fun j => .string (F j)) := by
  unfold listOf rowF
  rw [List.map_map]; rfl
theorem str_ne {a b : ByteArray} (h : a ≠ b) : (a.toList == b.toList) = false := by
  rw [beq_eq_false_iff_ne]
  intro e
  rw [ByteArray.toList_eq, ByteArray.toList_eq] at e
  apply h
  obtain ⟨x⟩ := a
  obtain ⟨y⟩ := b
  congr 1
  exact Array.toList_inj.1 e
theorem str_eq {a b : ByteArray} (h : a = b) : (a.toList == b.toList) = true := by rw [h]; simp
theorem bytesOf_eq {m : Nat} {f : Nat → Nat} {s : ByteArray} (hs : s.size = m) (hf : ∀ k, k < m → f k < 256) : bytesOf m f = s ↔ ∀ k, k < m → f k = byteS s k := by
  constructor
  · intro h
    rw [← bytesOf_self hs] at h
    exact bytesOf_inj hf (fun k _ => byteS_lt _ _) h
  · intro h
    rw [← bytesOf_self hs]
    exact bytesOf_congr h
def BoolB (b : Bool) (w : World) (e : Ending) (w' : World) : Prop := e = .returned (.bool b) ∧ Below w.heap.size w w'
/-- Cells that may be written, whatever the block's mark. -/
def RowC (w : World) (g m : Nat) (f : Nat → Value) : Prop := ∀ j, j < m → w.cell? ⟨g, j, none⟩ = some (f j) ∧ w.frozen? ⟨g, j, none⟩ = false
theorem RowC.store {w : World} {g m : Nat} {f : Nat → Value} (h : RowC w g m f) {i : Nat} (hi : i < m) (u : Value) : RowC (w.setCell ⟨g, i, none⟩ u) g m (fun j => if j = i then u else f j) := by
  intro j hj
  by_cases hji : j = i
  · subst hji
    refine ⟨?_, by rw [World.frozen?_setCell]; exact (h j hj).2⟩
    show _ = some (if j = j then u else f j)
    rw [if_pos rfl]
    exact World.cell?_setCell_same' _ _ _ (by rw [(h j hj).1]; rfl)
  · refine ⟨?_, by rw [World.frozen?_setCell]; exact (h j hj).2⟩
    show _ = some (if j = i then u else f j)
    rw [if_neg hji, World.cell?_setCell_other _ _ _ _ (by intro e; injection e with e1 e2; omega)]
    exact (h j hj).1
theorem RowC.drew {w : World} {g m : Nat} {f : Nat → Value} (h : RowC w g m f) (k : Nat) : RowC (w.drewN k) g m f := h
theorem RowC.reads {w : World} {g m : Nat} {f : Nat → Value} (h : RowC w g m f) : Reads w (some ⟨g, 0, none⟩) (rowF m f) := by
  intro j u hu
  have hj : j < m := by have := (List.getElem?_eq_some_iff.1 hu).1; rwa [rowF_length] at this
  rw [rowF_get f hj] at hu
  cases hu
  exact ⟨g, 0, rfl, by rw [Nat.zero_add]; exact (h j hj).1⟩
theorem RowC.congr {w : World} {g m : Nat} {f f' : Nat → Value} (h : RowC w g m f) (hf : ∀ j, j < m → f j = f' j) : RowC w g m f' := fun j hj => by rw [← hf j hj]; exact h j hj
theorem rowC_of_string (w : World) (s : ByteArray) (cap : Nat) : RowC (w.alloc (.cells (bytesRow s cap) 5 ((bytesRow s cap).size, (bytesRow s cap).size + 1))) w.heap.size s.size (fun j => .int .u8 (byteS s j : Nat)) := by
  intro j hj
  have hsz : s.size ≤ (bytesRow s cap).size := by
    unfold bytesRow
    rw [Array.size_append, Array.size_map]
    exact Nat.le_add_right _ _
  refine ⟨?_, ?_⟩
  · rw [World.cell?_alloc_mark, bytesRow_at s cap j hj]
    congr 2
    have e := byteS_get s j hj
    have e2 : s.data[j].toNat = byteS s j := e
    rw [e2]
  · rw [World.frozen?_alloc_mark]
    have : ¬ (bytesRow s cap).size ≤ j := by omega
    simp [this]
theorem setCell_grown (w : World) (g i : Nat) (u : Value) : w.grownBy (w.setCell ⟨g, i, none⟩ u) (some g) := by
  have h := below_set (B := g) (j := i) (Below.refl w.heap.size w)
  refine ⟨rfl, rfl, rfl, by simp, fun k hk hne => heap_set_far u (fun e => hne (by rw [e]))⟩
theorem StrsIn.below {w w' : World} {ao : Option Addr} {n : Nat} {ss : List ByteArray} (h : StrsIn w ao n ss) (hb : Below w.heap.size w w') : StrsIn w' ao n ss := ⟨h.1, h.2.1, h.2.2.1, h.2.2.2.below hb⟩
def Yes (w : World) (e : Ending) (w' : World) : Prop := e = .returned (.bool true) ∧ Below w.heap.size w w'
end Go.Proofs.Ytioecklnijhjgaa
namespace Go.Proofs.Ytioecklnijhjgaa

def xt (x : Nat) : Nat := if 255 < x * 2 then (x * 2) ^^^ 285 else x * 2
def gm : Nat → Nat → Nat → Nat → Nat
  | 0, _, _, o => o
  | f + 1, a, b, o => gm f (xt a) (b / 2) (if b % 2 = 1 then o ^^^ a else o)
/-- The product. -/
def gmul (a b : Nat) : Nat := gm 8 a b 0

theorem xor_lt256 {a b : Nat} (ha : a < 256) (hb : b < 256) : a ^^^ b < 256 := Nat.xor_lt_two_pow (n := 8) ha hb
theorem xt_lt {x : Nat} (h : x < 256) : xt x < 256 := by
  unfold xt
  split
  · rename_i h1
    have : (x * 2 ^^^ 285) < 512 := Nat.xor_lt_two_pow (n := 9) (by omega) (by omega)
    have h8 : (x * 2 ^^^ 285).testBit 8 = false := by
      rw [Nat.testBit_xor]
      have e1 : (x * 2).testBit 8 = true := by
        rw [Nat.testBit_eq_decide_div_mod_eq]; simp; omega
      rw [e1]; decide
    rw [Nat.testBit_eq_decide_div_mod_eq] at h8
    simp at h8; omega
  · omega
theorem xt_bit {x : Nat} (h : x < 256) : (255 < x * 2) ↔ x.testBit 7 = true := by
  rw [Nat.testBit_eq_decide_div_mod_eq]; simp; omega
theorem dbl_xor (x y : Nat) : (x ^^^ y) * 2 = x * 2 ^^^ y * 2 := by
  have h : ∀ z : Nat, z * 2 = z <<< 1 := fun z => by rw [Nat.shiftLeft_eq]
  rw [h, h, h, Nat.shiftLeft_xor_distrib]
theorem xor4 (a b c d : Nat) : (a ^^^ b) ^^^ (c ^^^ d) = (a ^^^ c) ^^^ (b ^^^ d) := by
  rw [Nat.xor_assoc, Nat.xor_assoc]; congr 1
  rw [← Nat.xor_assoc, ← Nat.xor_assoc, Nat.xor_comm b c]
theorem xt_eq {x : Nat} (h : x < 256) : xt x = if x.testBit 7 = true then x * 2 ^^^ 285 else x * 2 := by
  unfold xt
  simp only [xt_bit h]
theorem xt_xor {x y : Nat} (hx : x < 256) (hy : y < 256) : xt (x ^^^ y) = xt x ^^^ xt y := by
  rw [xt_eq hx, xt_eq hy, xt_eq (xor_lt256 hx hy), Nat.testBit_xor, dbl_xor]
  generalize x * 2 = X
  generalize y * 2 = Y
  cases x.testBit 7 <;> cases y.testBit 7 <;> simp
  · rw [Nat.xor_assoc]
  · rw [Nat.xor_assoc, Nat.xor_assoc, Nat.xor_comm 285]
  · rw [xor4, Nat.xor_self, Nat.xor_zero]
theorem gm_lt (f a b o : Nat) (ha : a < 256) (ho : o < 256) : gm f a b o < 256 := by
  induction f generalizing a b o with
  | zero => exact ho
  | succ f ih =>
    simp only [gm]
    refine ih _ _ _ (xt_lt ha) ?_
    split
    · exact xor_lt256 ho ha
    · exact ho
theorem gmul_lt {a b : Nat} (ha : a < 256) : gmul a b < 256 := gm_lt 8 a b 0 ha (by omega)
theorem gm_left (f a a' b o o' : Nat) (ha : a < 256) (ha' : a' < 256) : gm f (a ^^^ a') b (o ^^^ o') = gm f a b o ^^^ gm f a' b o' := by
  induction f generalizing a a' b o o' with
  | zero => rfl
  | succ f ih =>
    simp only [gm]
    rw [xt_xor ha ha']
    split
    · rw [xor4, ih _ _ _ _ _ (xt_lt ha) (xt_lt ha')]
    · rw [ih _ _ _ _ _ (xt_lt ha) (xt_lt ha')]
theorem gmul_left {a a' : Nat} (b : Nat) (ha : a < 256) (ha' : a' < 256) : gmul (a ^^^ a') b = gmul a b ^^^ gmul a' b := by
  have := gm_left 8 a a' b 0 0 ha ha'
  rwa [Nat.xor_self] at this
theorem mod2_xor (b c : Nat) : (b ^^^ c) % 2 = (b % 2 ^^^ c % 2) := Nat.xor_mod_two_pow (n := 1)
theorem div2_xor (b c : Nat) : (b ^^^ c) / 2 = (b / 2 ^^^ c / 2) := Nat.xor_div_two
theorem gm_right (f a b b' o o' : Nat) : gm f a (b ^^^ b') (o ^^^ o') = gm f a b o ^^^ gm f a b' o' := by
  induction f generalizing a b b' o o' with
  | zero => rfl
  | succ f ih =>
    simp only [gm]
    rw [div2_xor, mod2_xor, ← ih]
    congr 1
    rcases Nat.mod_two_eq_zero_or_one b with h1 | h1 <;> rcases Nat.mod_two_eq_zero_or_one b' with h2 | h2 <;> simp [h1, h2]
    · rw [Nat.xor_assoc]
    · rw [Nat.xor_assoc, Nat.xor_assoc, Nat.xor_comm a]
    · rw [xor4, Nat.xor_self, Nat.xor_zero]
theorem gmul_right (a b b' : Nat) : gmul a (b ^^^ b') = gmul a b ^^^ gmul a b' := by
  have := gm_right 8 a b b' 0 0
  rwa [Nat.xor_self] at this

/-- What is said of the powers of two is said of all bytes. -/
theorem lin_ext (f g : Nat → Nat) (hf : ∀ x y, x < 256 → y < 256 → f (x ^^^ y) = f x ^^^ f y) (hg : ∀ x y, x < 256 → y < 256 → g (x ^^^ y) = g x ^^^ g y)
    (h : ∀ k, k < 8 → f (2 ^ k) = g (2 ^ k)) : ∀ x, x < 256 → f x = g x := by
  have f0 : f 0 = 0 := by have := hf 0 0 (by omega) (by omega); simpa using this
  have g0 : g 0 = 0 := by have := hg 0 0 (by omega) (by omega); simpa using this
  have H : ∀ m, m ≤ 8 → ∀ x, x < 2 ^ m → f x = g x := by
    intro m
    induction m with
    | zero => intro _ x hx; obtain rfl : x = 0 := by simpa using hx
              rw [f0, g0]
    | succ m ih =>
      intro hm x hx
      have hp : 2 ^ m ≤ 128 := Nat.pow_le_pow_right (n := 2) (by omega) (show m ≤ 7 by omega)
      by_cases hxm : x < 2 ^ m
      · exact ih (by omega) x hxm
      · have hr : x ^^^ 2 ^ m < 2 ^ m := by
          have h1 : x.testBit m = true := by
            rw [Nat.testBit_eq_decide_div_mod_eq]
            have : x / 2 ^ m = 1 := by
              rw [Nat.pow_succ] at hx
              exact Nat.div_eq_of_lt_le (by omega) (by omega)
            simp [this]
          refine Nat.lt_pow_two_of_testBit _ fun i hi => ?_
          rw [Nat.testBit_xor]
          by_cases him : i = m
          · subst him; rw [h1, Nat.testBit_two_pow_self]; rfl
          · have h2 : x.testBit i = false := Nat.testBit_lt_two_pow (Nat.lt_of_lt_of_le hx (Nat.pow_le_pow_right (by omega) (by omega)))
            rw [h2, Nat.testBit_two_pow_of_ne (by omega)]; rfl
        have e : x = (x ^^^ 2 ^ m) ^^^ 2 ^ m := by rw [Nat.xor_assoc, Nat.xor_self, Nat.xor_zero]
        rw [e, hf _ _ (by omega) (by omega), hg _ _ (by omega) (by omega), ih (by omega) _ hr, h m (by omega)]
  exact fun x hx => H 8 (Nat.le_refl _) x hx

theorem gmul_comm {a b : Nat} (ha : a < 256) (hb : b < 256) : gmul a b = gmul b a := by
  refine lin_ext (fun x => gmul x b) (fun x => gmul b x) (fun x y hx hy => gmul_left b hx hy) (fun x y _ _ => gmul_right b x y) (fun k hk => ?_) a ha
  refine lin_ext (fun y => gmul (2 ^ k) y) (fun y => gmul y (2 ^ k)) (fun x y _ _ => gmul_right _ x y) (fun x y hx hy => gmul_left _ hx hy) (fun j hj => ?_) b hb
  have H : ∀ k : Fin 8, ∀ j : Fin 8, gmul (2 ^ k.val) (2 ^ j.val) = gmul (2 ^ j.val) (2 ^ k.val) := by decide +kernel
  exact H ⟨k, hk⟩ ⟨j, hj⟩
theorem gmul_assoc {a b c : Nat} (ha : a < 256) (hb : b < 256) (hc : c < 256) : gmul (gmul a b) c = gmul a (gmul b c) := by
  have p8 : ∀ k, k < 8 → 2 ^ k < 256 := fun k hk => by have := Nat.pow_lt_pow_right (a := 2) (by omega) hk; omega
  refine lin_ext (fun x => gmul (gmul x b) c) (fun x => gmul x (gmul b c)) (fun x y hx hy => ?_) (fun x y hx hy => gmul_left _ hx hy) (fun k hk => ?_) a ha
  · show gmul (gmul (x ^^^ y) b) c = _
    rw [gmul_left b hx hy, gmul_left c (gmul_lt hx) (gmul_lt hy)]
  refine lin_ext (fun y => gmul (gmul (2 ^ k) y) c) (fun y => gmul (2 ^ k) (gmul y c)) (fun x y _ _ => ?_) (fun x y hx hy => ?_) (fun j hj => ?_) b hb
  · show gmul (gmul (2 ^ k) (x ^^^ y)) c = _
    rw [gmul_right, gmul_left c (gmul_lt (p8 k hk)) (gmul_lt (p8 k hk))]
  · show gmul (2 ^ k) (gmul (x ^^^ y) c) = _
    rw [gmul_left c hx hy, gmul_right]
  refine lin_ext (fun z => gmul (gmul (2 ^ k) (2 ^ j)) z) (fun z => gmul (2 ^ k) (gmul (2 ^ j) z)) (fun x y _ _ => gmul_right _ x y) (fun x y _ _ => ?_) (fun i hi => ?_) c hc
  · show gmul (2 ^ k) (gmul (2 ^ j) (x ^^^ y)) = _
    rw [gmul_right, gmul_right]
  have H : ∀ k : Fin 8, ∀ j : Fin 8, ∀ i : Fin 8, gmul (gmul (2 ^ k.val) (2 ^ j.val)) (2 ^ i.val) = gmul (2 ^ k.val) (gmul (2 ^ j.val) (2 ^ i.val)) := by decide +kernel
  exact H ⟨k, hk⟩ ⟨j, hj⟩ ⟨i, hi⟩
theorem gmul_zero (a : Nat) : gmul a 0 = 0 := by have := gmul_right a 0 0; simpa using this
theorem zero_gmul (b : Nat) : gmul 0 b = 0 := by have := gmul_left b (a := 0) (a' := 0) (by omega) (by omega); simpa using this
theorem gmul_one {a : Nat} (_ha : a < 256) : gmul a 1 = a := by simp [gmul, gm]
theorem one_gmul {a : Nat} (ha : a < 256) : gmul 1 a = a := by rw [gmul_comm (by omega) ha, gmul_one ha]

/-- The inverse: the power 254. -/
def ginv (a : Nat) : Nat :=
  let a2 := gmul a a; let a4 := gmul a2 a2; let a8 := gmul a4 a4; let a16 := gmul a8 a8; let a32 := gmul a16 a16; let a64 := gmul a32 a32; let a128 := gmul a64 a64
  gmul (gmul (gmul (gmul (gmul (gmul a2 a4) a8) a16) a32) a64) a128
theorem ginv_lt {a : Nat} (ha : a < 256) : ginv a < 256 := by
  unfold ginv
  exact gmul_lt (gmul_lt (gmul_lt (gmul_lt (gmul_lt (gmul_lt (gmul_lt ha))))))
theorem gmul_ginv {a : Nat} (ha : a < 256) (h0 : a ≠ 0) : gmul a (ginv a) = 1 := by
  have H : ∀ a : Fin 256, a.val ≠ 0 → gmul a.val (ginv a.val) = 1 := by decide +kernel
  exact H ⟨a, ha⟩ h0
theorem gmul_eq_zero {a b : Nat} (ha : a < 256) (hb : b < 256) : gmul a b = 0 ↔ a = 0 ∨ b = 0 := by
  constructor
  · intro h
    by_cases h0 : a = 0
    · exact .inl h0
    · right
      have h1 : gmul (ginv a) (gmul a b) = b := by
        rw [← gmul_assoc (ginv_lt ha) ha hb, gmul_comm (ginv_lt ha) ha, gmul_ginv ha h0, one_gmul hb]
      rw [h, gmul_zero] at h1; exact h1.symm
  · rintro (h | h) <;> subst h
    · exact zero_gmul _
    · exact gmul_zero _
attribute [irreducible] gmul
end Go.Proofs.Ytioecklnijhjgaa
