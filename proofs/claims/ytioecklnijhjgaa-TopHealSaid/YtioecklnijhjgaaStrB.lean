/- Strings and their bytes; rows of bytes; the conversions. Laws over this program's types alone. -/
import Derived.Test.YtioecklnijhjgaaRows
import Derived.Test.YtioecklnijhjgaaHlM3
import Derived.Laws.IdiomStrings
import Derived.Laws.Strings
import Derived.Deep.RegionHeld
import Derived.Deep.QuietTactic
import Derived.BigQuiet
namespace Go.Proofs.Ytioecklnijhjgaa
open Go.RowKit

def sAt (ss : List ByteArray) (i : Nat) : ByteArray := ss.getD i ByteArray.empty
def byteS (s : ByteArray) (k : Nat) : Nat := (s.data.toList.getD k 0).toNat
theorem byteS_lt (s : ByteArray) (k : Nat) : byteS s k < 256 := UInt8.toNat_lt _
theorem byteS_get (s : ByteArray) (k : Nat) (h : k < s.size) : s[k].toNat = byteS s k := by
  unfold byteS
  rw [List.getD_eq_getElem?_getD, List.getElem?_eq_getElem (by simpa using h)]
  simp
  rfl
theorem drop_at {ss : List ByteArray} {k : Nat} (h : k < ss.length) : ss.drop k = sAt ss k :: ss.drop (k + 1) := by
  rw [List.drop_eq_getElem_cons h]
  congr 1
  unfold sAt
  rw [List.getD_eq_getElem?_getD, List.getElem?_eq_getElem h]; rfl
theorem str_at {ss : List ByteArray} {k : Nat} (h : k < ss.length) : (ss.map Value.string)[k]? = some (.string (sAt ss k)) := by
  rw [List.getElem?_map, List.getElem?_eq_getElem h]
  unfold sAt
  rw [List.getD_eq_getElem?_getD, List.getElem?_eq_getElem h]; rfl
theorem sAt_mem {ss : List ByteArray} {k : Nat} (h : k < ss.length) : sAt ss k ∈ ss := by
  unfold sAt
  rw [List.getD_eq_getElem?_getD, List.getElem?_eq_getElem h]
  exact List.getElem_mem _
theorem u8InfoP : ElemRow Try.prog 5 (.int .u8 0) 1 1 := elemRow_of (by kernel_rfl) rfl (by omega)
/-- make([]byte, m): the run. -/
theorem mk_u8 (m : Nat) (hm : m ≤ 1000000) (W : World) : (Instr.makeSlice 73 (.int .i64 (m : Int)) (.int .i64 (m : Int))).run Try.prog W = .ok (.slice (some ⟨W.heap.size, 0, none⟩) m m) (W.alloc (.cells (rowF m (fun _ => Value.int .u8 0)).toArray 5)) := by
  obtain ⟨i, hi, hz, hsize, hby, hzs, hsz⟩ := u8InfoP
  have h := run_make (P := Try.prog) W 73 5 i _ Try.underlying73 hi hz .i64 .i64 (m : Int) (m : Int) (by omega) (Int.le_refl _) (by rw [hby]; omega) (by omega)
  rw [h]
  have e : madeCells (Value.int .u8 0).cells ((m : Int).toNat * i.size) = (rowF m (fun _ => Value.int .u8 0)).toArray := by
    rw [hsize, Nat.mul_one]
    apply Array.toList_inj.1
    have := toList_madeCells_one (Value.int .u8 0) m
    rw [replicate_rowF] at this
    exact this
  rw [e]
  simp
theorem own_A (m : Nat) (w : World) (hm : m ≤ maxLen := by unfold maxLen; omega) : Own ((w.alloc (.cells (rowF m (fun _ => Value.int .u8 0)).toArray 5)).alloc (.cells (rowF m (fun _ => Value.int .u8 0)).toArray 5)).drew w.heap.size 5 w.heap.size m m (fun _ => .int .u8 0) := by
  have h := own_lit w w.heap.size 5 (rowF m (fun _ => Value.int .u8 0)) (Nat.le_refl _) (by rw [rowF_length]; exact hm)
  rw [rowF_length] at h
  exact own_below (own_below h ((Below.refl _ _).alloc (Nat.le_refl _) _)) (below_dr _ _ 1)
theorem own_B (m : Nat) (w : World) (hm : m ≤ maxLen := by unfold maxLen; omega) : Own ((w.alloc (.cells (rowF m (fun _ => Value.int .u8 0)).toArray 5)).alloc (.cells (rowF m (fun _ => Value.int .u8 0)).toArray 5)).drew w.heap.size 5 (w.heap.size + 1) m m (fun _ => .int .u8 0) := by
  have h := own_lit (w.alloc (.cells (rowF m (fun _ => Value.int .u8 0)).toArray 5)) w.heap.size 5 (rowF m (fun _ => Value.int .u8 0)) (by simp) (by rw [rowF_length]; exact hm)
  rw [rowF_length, World.size_alloc] at h
  exact own_below h (below_dr _ _ 1)
theorem upd_row {F G : Nat → Nat} {k y : Nat} (h : F k = y) (j : Nat) : (if j = k then Value.int .u8 (y : Int) else .int .u8 ((if j < k then F j else G j : Nat) : Int)) = .int .u8 ((if j < k + 1 then F j else G j : Nat) : Int) := by
  by_cases h1 : j = k
  · subst h1; rw [if_pos rfl, if_pos (by omega), h]
  · rw [if_neg h1]
    by_cases h2 : j < k
    · rw [if_pos h2, if_pos (by omega)]
    · rw [if_neg h2, if_neg (by omega)]
def bytesOf (m : Nat) (f : Nat → Nat) : ByteArray := ⟨((List.range m).map fun k => UInt8.ofNat (f k)).toArray⟩
theorem bytesOf_size (m : Nat) (f : Nat → Nat) : (bytesOf m f).size = m := by simp [bytesOf, ByteArray.size]
theorem bytesOf_get {m : Nat} {f : Nat → Nat} {k : Nat} (hk : k < m) (hf : f k < 256) : byteS (bytesOf m f) k = f k := by
  unfold byteS bytesOf
  rw [List.getD_eq_getElem?_getD]
  simp [hk]
  omega
theorem bytesOf_congr {m : Nat} {f g : Nat → Nat} (h : ∀ k, k < m → f k = g k) : bytesOf m f = bytesOf m g := by
  unfold bytesOf
  congr 2
  exact List.map_congr_left fun k hk => by rw [h k (List.mem_range.1 hk)]
theorem bytesOf_self {s : ByteArray} {m : Nat} (h : s.size = m) : bytesOf m (byteS s) = s := by
  obtain ⟨d⟩ := s
  unfold bytesOf
  congr 1
  apply Array.toList_inj.1
  apply List.ext_getElem?
  intro k
  have hd : d.size = m := h
  by_cases hk : k < m
  · have h2 : k < d.size := by omega
    simp [byteS, hk, h2]
  · have h2 : ¬ k < d.size := by omega
    simp [byteS, hk, h2]
theorem bytesOf_inj {m : Nat} {f g : Nat → Nat} (hf : ∀ k, k < m → f k < 256) (hg : ∀ k, k < m → g k < 256) (h : bytesOf m f = bytesOf m g) : ∀ k, k < m → f k = g k := by
  intro k hk
  rw [← bytesOf_get hk (hf k hk), h, bytesOf_get hk (hg k hk)]
theorem conv_back (m : Nat) (f : Nat → Nat) (ao : Option Addr) (cap : Nat) (W : World) (hf : ∀ k, k < m → f k < 256) (hn : ao = none → m = 0) (hR : Reads W ao (rowF m fun k => .int .u8 (f k : Nat))) :
    (convert 73 9 (.slice ao m cap)).run Try.prog W = .ok (.string (bytesOf m f)) W := by
  cases ao with
  | none =>
    obtain rfl := hn rfl
    rw [run_convert_bytes_string W 73 9 5 none 0 cap Try.underlying73 Try.underlying5 Try.underlying9]
    rfl
  | some a =>
    have h := run_convert_bytes_back (P := Try.prog) W 73 9 5 a cap ((List.range m).map fun k => UInt8.ofNat (f k)) Try.underlying73 Try.underlying5 Try.underlying9 ?_
    · simp only [List.length_map, List.length_range] at h
      exact h
    · intro j hj
      simp only [List.length_map, List.length_range] at hj
      obtain ⟨b, o, ha, hc⟩ := hR j _ (rowF_get _ hj)
      cases ha
      rw [Addr.add_lit, hc]
      have := hf j hj
      simp
      omega
def rowB (m : Nat) (f : Nat → Nat) : List Value := rowF m fun k => .int .u8 (f k : Nat)
theorem rowB_succ (m : Nat) (f : Nat → Nat) : rowB (m + 1) f = rowB m f ++ [.int .u8 (f m : Nat)] := rowF_succ _ _
theorem rowB_length (m : Nat) (f : Nat → Nat) : (rowB m f).length = m := rowF_length _ _
theorem own_cap6 {w : World} {base e size : Nat} {ao : Option Addr} {n m cap : Nat} {xs : List Value} (h : w.ownsRow base e size (.slice ao n cap) m xs) : n ≤ cap ∧ cap ≤ maxLen := by
  rcases h.2 with ⟨hv, _⟩ | ⟨g, c, cur, hv, _, _, h1, h2, _⟩
  · cases hv; exact ⟨Nat.le_refl _, by unfold maxLen; omega⟩
  · cases hv; exact ⟨h1, h2⟩
theorem own_A' (base m : Nat) (w : World) (hb : base ≤ w.heap.size) (hm : m ≤ 1000000) : Own ((w.alloc (.cells (rowF m (fun _ => Value.int .u8 0)).toArray 5)).alloc (.cells (rowF m (fun _ => Value.int .u8 0)).toArray 5)).drew base 5 w.heap.size m m (fun _ => .int .u8 0) :=
  own_mono (own_A m w (by unfold maxLen; omega)) hb
theorem own_B' (base m : Nat) (w : World) (hb : base ≤ w.heap.size) (hm : m ≤ 1000000) : Own ((w.alloc (.cells (rowF m (fun _ => Value.int .u8 0)).toArray 5)).alloc (.cells (rowF m (fun _ => Value.int .u8 0)).toArray 5)).drew base 5 (w.heap.size + 1) m m (fun _ => .int .u8 0) :=
  own_mono (own_B m w (by unfold maxLen; omega)) hb
theorem strRow (ss : List ByteArray) : ss.map Value.string = rowF ss.length (fun j => .string (sAt ss j)) := map_rowF ss Value.string ByteArray.empty
theorem one_str {ss : List ByteArray} : ∀ u ∈ ss.map Value.string, u.oneCell' = true := by
  intro u hu
  obtain ⟨s, _, rfl⟩ := List.mem_map.1 hu
  rfl
/-- A list told by a function. -/
def listOf (n : Nat) (F : Nat → ByteArray) : List ByteArray := (List.range n).map F
theorem listOf_len (n : Nat) (F : Nat → ByteArray) : (listOf n F).length = n := by simp [listOf]
theorem listOf_at {n : Nat} (F : Nat → ByteArray) {j : Nat} (h : j < n) : sAt (listOf n F) j = F j := by
  unfold sAt listOf
  rw [List.getD_eq_getElem?_getD]
  simp [h]
theorem listOf_row (n : Nat) (F : Nat → ByteArray) : (listOf n F).map Value.string = rowF n (fun j => .string (F j)) := by
  unfold listOf rowF
  rw [List.map_map]; rfl
theorem str_ne {a b : ByteArray} (h : a ≠ b) : (a.toList == b.toList) = false := by
  rw [beq_eq_false_iff_ne]
  intro e
  rw [ByteArray.toList_eq, ByteArray.toList_eq] at e
  apply h
  obtain ⟨x⟩ := a
  obtain ⟨y⟩ := b
  congr 1
  exact Array.toList_inj.1 e
theorem str_eq {a b : ByteArray} (h : a = b) : (a.toList == b.toList) = true := by rw [h]; simp
theorem bytesOf_eq {m : Nat} {f : Nat → Nat} {s : ByteArray} (hs : s.size = m) (hf : ∀ k, k < m → f k < 256) : bytesOf m f = s ↔ ∀ k, k < m → f k = byteS s k := by
  constructor
  · intro h
    rw [← bytesOf_self hs] at h
    exact bytesOf_inj hf (fun k _ => byteS_lt _ _) h
  · intro h
    rw [← bytesOf_self hs]
    exact bytesOf_congr h
def BoolB (b : Bool) (w : World) (e : Ending) (w' : World) : Prop := e = .returned (.bool b) ∧ Below w.heap.size w w'
/-- Cells that may be written, whatever the block's mark. -/
def RowC (w : World) (g m : Nat) (f : Nat → Value) : Prop := ∀ j, j < m → w.cell? ⟨g, j, none⟩ = some (f j) ∧ w.frozen? ⟨g, j, none⟩ = false
theorem RowC.store {w : World} {g m : Nat} {f : Nat → Value} (h : RowC w g m f) {i : Nat} (hi : i < m) (u : Value) : RowC (w.setCell ⟨g, i, none⟩ u) g m (fun j => if j = i then u else f j) := by
  intro j hj
  by_cases hji : j = i
  · subst hji
    refine ⟨?_, by rw [World.frozen?_setCell]; exact (h j hj).2⟩
    show _ = some (if j = j then u else f j)
    rw [if_pos rfl]
    exact World.cell?_setCell_same' _ _ _ (by rw [(h j hj).1]; rfl)
  · refine ⟨?_, by rw [World.frozen?_setCell]; exact (h j hj).2⟩
    show _ = some (if j = i then u else f j)
    rw [if_neg hji, World.cell?_setCell_other _ _ _ _ (by intro e; injection e with e1 e2; omega)]
    exact (h j hj).1
theorem RowC.drew {w : World} {g m : Nat} {f : Nat → Value} (h : RowC w g m f) (k : Nat) : RowC (w.drewN k) g m f := h
theorem RowC.reads {w : World} {g m : Nat} {f : Nat → Value} (h : RowC w g m f) : Reads w (some ⟨g, 0, none⟩) (rowF m f) := by
  intro j u hu
  have hj : j < m := by have := (List.getElem?_eq_some_iff.1 hu).1; rwa [rowF_length] at this
  rw [rowF_get f hj] at hu
  cases hu
  exact ⟨g, 0, rfl, by rw [Nat.zero_add]; exact (h j hj).1⟩
theorem RowC.congr {w : World} {g m : Nat} {f f' : Nat → Value} (h : RowC w g m f) (hf : ∀ j, j < m → f j = f' j) : RowC w g m f' := fun j hj => by rw [← hf j hj]; exact h j hj
theorem rowC_of_string (w : World) (s : ByteArray) (cap : Nat) : RowC (w.alloc (.cells (bytesRow s cap) 5 ((bytesRow s cap).size, (bytesRow s cap).size + 1))) w.heap.size s.size (fun j => .int .u8 (byteS s j : Nat)) := by
  intro j hj
  have hsz : s.size ≤ (bytesRow s cap).size := by
    unfold bytesRow
    rw [Array.size_append, Array.size_map]
    exact Nat.le_add_right _ _
  refine ⟨?_, ?_⟩
  · rw [World.cell?_alloc_mark, bytesRow_at s cap j hj]
    congr 2
    have e := byteS_get s j hj
    have e2 : s.data[j].toNat = byteS s j := e
    rw [e2]
  · rw [World.frozen?_alloc_mark]
    have : ¬ (bytesRow s cap).size ≤ j := by omega
    simp [this]
theorem setCell_grown (w : World) (g i : Nat) (u : Value) : w.grownBy (w.setCell ⟨g, i, none⟩ u) (some g) := by
  have h := below_set (B := g) (j := i) (Below.refl w.heap.size w)
  refine ⟨rfl, rfl, rfl, by simp, fun k hk hne => heap_set_far u (fun e => hne (by rw [e]))⟩
theorem StrsIn.below {w w' : World} {ao : Option Addr} {n : Nat} {ss : List ByteArray} (h : StrsIn w ao n ss) (hb : Below w.heap.size w w') : StrsIn w' ao n ss := ⟨h.1, h.2.1, h.2.2.1, h.2.2.2.below hb⟩
def Yes (w : World) (e : Ending) (w' : World) : Prop := e = .returned (.bool true) ∧ Below w.heap.size w w'
end Go.Proofs.Ytioecklnijhjgaa
