/- slices.Index and slices.Contains at int. -/
import Derived.Test.YtioecklnijhjgaaRows
import Derived.Test.YtioecklnijhjgaaPlM36
import Derived.Shelf.Strings.OnBuilder
import Derived.Test.YtioecklnijhjgaaPlM14
import Derived.Test.YtioecklnijhjgaaPlM17
set_option linter.unusedVariables false
set_option linter.unusedSimpArgs false
namespace Go.Proofs.Ytioecklnijhjgaa
open Go.RowKit

set_option maxRecDepth 20000 in
set_option maxHeartbeats 400000 in
theorem index_i64 (x : Int) (zs : List Int) (len : Nat) (ao : Option Addr) (cap : Nat) (w : World) (hlen : zs.length = len) (hl : len ≤ 9223372036854775807) (hR : Hid (Reads w ao (zs.map (Value.int .i64)))) :
    Calls Try.prog 81 #[.slice ao len cap, .int .i64 x] w fun e w' => e = .returned (.int .i64 (idxA (fun y => x == y) zs)) ∧ ∃ n, w' = w.drewN n := by
  have HL := Lib.hid hlen
  clear hlen
  go_enter Try.func81, Try.ntmps81
  go_wp2_with fail
  go_loopw [8] (fun vi wr => ∃ k : Nat, vi = .int .i64 k ∧ k ≤ len ∧ Hid (∀ j y, j < k → zs[j]? = some y → (x == y) = false) ∧ ∃ n, wr = w.drewN n) (fun vi _ => len - (intOf vi).toNat)
  case atStart => exact ⟨0, rfl, by omega, by intro j y hj; omega, 0, rfl⟩
  case round =>
    obtain ⟨k, rfl, hk, hno, n, rfl⟩ := hrel
    by_cases hkl : k < len
    · obtain ⟨y, hy⟩ : ∃ y, zs[k]? = some y := ⟨zs[k]'(by rw [HL.out]; exact hkl), List.getElem?_eq_getElem _⟩
      obtain ⟨b, o, rfl, hc⟩ := hR.out k (.int .i64 y) (by simp [hy])
      have HY := Lib.hid hy
      clear hy
      have i0 : (0 : Int) ≤ (k : Int) := by omega
      have i1 : (k : Int) < (len : Int) := by omega
      cases hp : (x == y) with
      | true =>
        go_wp2_with fail
        go_ret
        exact ⟨ret_int (idxA_some HY.out (by simpa using hp) hno.out).symm, by first | exact ⟨_, rfl⟩ | exact dr2 _ _ _⟩
      | false =>
        have HP := Lib.hid hp
        go_wp2_with fail
        go_roundw
        case rel => exact ⟨k + 1, by go_num, by omega, by
          intro j z hj hz
          by_cases he : j = k
          · subst he; rw [HY.out] at hz; cases hz; exact HP.out
          · exact hno.out j z (by omega) hz, by first | exact ⟨_, rfl⟩ | exact dr2 _ _ _⟩
        case measure => simp [intOf]; omega
    · obtain rfl : k = len := by omega
      go_wp2
      go_ret
      refine ⟨ret_int (idxA_none fun z hz => ?_).symm, _, rfl⟩
      obtain ⟨j, hj⟩ := List.getElem?_of_mem hz
      have := (List.getElem?_eq_some_iff.1 hj).1
      exact hno.out j z (by have := HL.out; omega) hj
theorem contains_i64 (x : Int) (zs : List Int) (len : Nat) (ao : Option Addr) (cap : Nat) (w : World) (hlen : zs.length = len) (hl : len ≤ 9223372036854775807) (hR : Hid (Reads w ao (zs.map (Value.int .i64)))) :
    Calls Try.prog 68 #[.slice ao len cap, .int .i64 x] w fun e w' => e = .returned (.bool (decide (x ∈ zs))) ∧ ∃ n, w' = w.drewN n := by
  have C := Lib.hid (index_i64 x zs len ao cap w hlen hl hR)
  have hd : Hid (decide (0 ≤ idxA (fun y => x == y) zs) = decide (x ∈ zs)) := by
    show _ = _
    rw [idxA_nonneg]
    by_cases h : x ∈ zs
    · rw [decide_eq_true h, List.any_eq_true]
      exact ⟨x, h, by simp⟩
    · rw [decide_eq_false h, List.any_eq_false]
      intro y hy he
      have : x = y := by simpa using he
      exact h (this ▸ hy)
  clear hR hlen
  go_enter Try.func68, Try.ntmps68
  go_wp2_with (go_at_call 81; refine C.out.mono ?_; rintro e w' ⟨rfl, n, rfl⟩)
  go_ret
  exact ⟨ret_bool hd.out, _, rfl⟩
end Go.Proofs.Ytioecklnijhjgaa
namespace Go.Proofs.Ytioecklnijhjgaa
open Go.Shelf Go.RowKit

def joinA_ren : Go.Shelf.Ren := ⟨fun | 156 => 70 | 165 => 82 | 166 => 83 | 169 => 84 | 240 => 93 | 241 => 94 | 276 => 98 | 277 => 99 | n => n, fun | 31 => 86 | 9 => 9 | 3 => 3 | 4 => 4 | 0 => 0 | 20 => 20 | 72 => 139 | 76 => 143 | 70 => 137 | 37 => 73 | 75 => 142 | 127 => 154 | 164 => 160 | 5 => 5 | 80 => 145 | n => n, fun | n => n⟩
theorem joinA : Go.Proofs.Lays.n156 Try.prog joinA_ren := {
  mixed := by kernel_rfl
  f156 := Try.func70.trans (congrArg some (by kernel_rfl))
  f165 := Try.func82.trans (congrArg some (by kernel_rfl))
  f166 := Try.func83.trans (congrArg some (by kernel_rfl))
  f169 := Try.func84.trans (congrArg some (by kernel_rfl))
  f240 := Try.func93.trans (congrArg some (by kernel_rfl))
  f241 := Try.func94.trans (congrArg some (by kernel_rfl))
  f276 := Try.func98.trans (congrArg some (by kernel_rfl))
  f277 := Try.func99.trans (congrArg some (by kernel_rfl))
  t0 := Try.underlying0
  a0 := Try.isAgg0
  z0 := Try.sizeOf0
  v0 := Try.zeroValue0
  t3 := Try.underlying3
  a3 := Try.isAgg3
  z3 := Try.sizeOf3
  v3 := Try.zeroValue3
  t4 := Try.underlying4
  a4 := Try.isAgg4
  z4 := Try.sizeOf4
  v4 := Try.zeroValue4
  t9 := Try.underlying9
  a9 := Try.isAgg9
  z9 := Try.sizeOf9
  v9 := Try.zeroValue9
  t20 := Try.underlying20
  a20 := Try.isAgg20
  z20 := Try.sizeOf20
  v20 := Try.zeroValue20
  t31 := Try.underlying86
  a31 := Try.isAgg86
  z31 := Try.sizeOf86
  v31 := Try.zeroValue86
  t37 := Try.underlying73
  a37 := Try.isAgg73
  z37 := Try.sizeOf73
  v37 := Try.zeroValue73
  t70 := Try.underlying137
  a70 := Try.isAgg137
  z70 := Try.sizeOf137
  v70 := Try.zeroValue137
  t72 := Try.underlying139
  a72 := Try.isAgg139
  z72 := Try.sizeOf139
  v72 := Try.zeroValue139
  t75 := Try.underlying142
  a75 := Try.isAgg142
  z75 := Try.sizeOf142
  v75 := Try.zeroValue142
  t76 := Try.underlying143
  a76 := Try.isAgg143
  z76 := Try.sizeOf143
  v76 := Try.zeroValue143
  t127 := Try.underlying154
  a127 := Try.isAgg154
  z127 := Try.sizeOf154
  v127 := Try.zeroValue154
  t164 := Try.underlying160
  a164 := Try.isAgg160
  z164 := Try.sizeOf160
  v164 := Try.zeroValue160 }
theorem joinAX : Builder.Extra Try.prog joinA_ren := {
  sizeBuilder := by kernel_rfl
  liesBuilder := by kernel_rfl
  t5 := Try.underlying5
  a5 := Try.isAgg5
  z5 := Try.sizeOf5
  v5 := Try.zeroValue5
  infoByte := by kernel_rfl
  cellsByte := by kernel_rfl
  sizeByte := by kernel_rfl
  neB5 := by decide }
theorem str_Join (bk o c : Nat) (xs : List ByteArray) (n : Nat) (sep : ByteArray) (w : World) (hn : xs.length = n)
    (hcells : ∀ (j : Nat) x, xs[j]? = some x → w.cell? ⟨bk, o + j, none⟩ = some (.string x))
    (hbk : bk < w.heap.size) (hN : n ≤ 140737488355328) (hcap : n ≤ c)
    (hlen : (Lib.join (xs.map (·.data.toList)) sep.data.toList).length ≤ 140737488355328) :
    Calls Try.prog 70 #[.slice (some ⟨bk, o, none⟩) n c, .string sep] w fun e w' => e = .returned (.string ⟨(Lib.join (xs.map (·.data.toList)) sep.data.toList).toArray⟩) ∧ Below w.heap.size w w' := by
  subst hn
  exact Any.strings_Join joinA joinAX bk o c xs sep w hcells hbk hN hcap hlen
end Go.Proofs.Ytioecklnijhjgaa
namespace Go.Proofs.Ytioecklnijhjgaa
open Go.RowKit

theorem cellInfoQ : ElemRow Try.prog 122 (.agg #[.bool false, .int .u8 0]) 2 2 := elemRow_of (by kernel_rfl) rfl (by omega)
theorem i64InfoJ : ElemRow Try.prog 3 (.int .i64 0) 1 8 := elemRow_of (by kernel_rfl) rfl (by omega)
/-- MendOf by the places in their order. -/
theorem ref_MendOf_pl (H : Nat → Bool) (B : Nat → GF) (n k : Nat) (ao : Option Addr) (cap : Nat) (w : World) (hn : n ≤ 20) (hk1 : 1 ≤ k) (hk2 : k ≤ n) (hR : Hid (Reads w ao (cellV H B n))) :
    Calls Try.prog 69 #[.slice ao n cap, .int .i64 k] w (MendPost H B (pl H n) n k w) := by
  refine (ref_MendOf H B n k ao cap w hn hk1 hk2 hR).mono ?_
  rintro e w' ⟨hb, hh⟩
  have hl : (pd H n n).length = (pl H n).length := by rw [pd_all, List.length_reverse]
  rw [hl] at hh
  refine ⟨hb, ?_⟩
  rcases hh with ⟨a1, rfl⟩ | ⟨a1, a2, rfl⟩ | ⟨a1, a2, v, rfl, hv⟩
  · exact .inl ⟨a1, rfl⟩
  · exact .inr (.inl ⟨a1, fun h => a2 ((fit_iff (by omega) a1).1.1 h), rfl⟩)
  · have hf := (fit_iff (by omega) a1).1.2 a2
    have hs := (fit_iff (by omega) a1).2 hf
    refine .inr (.inr ⟨a1, hf, v, rfl, ?_⟩)
    have e : rowF n (gfV fun j => rowP B (pl H n) k (gf j)) = rowF n (gfV fun j => rowP B (pd H n n) k (gf j)) := rowF_congr fun j _ => by
      unfold gfV; dsimp only; rw [hs]
    rw [e]; exact hv
theorem cellV_snoc (H : Nat → Bool) (B : Nat → GF) (j : Nat) : cellV H B (j + 1) = cellV H B j ++ [.bool (H j), gfV B j] := by
  unfold cellV cells2
  rw [List.range_succ, List.map_append, List.flatMap_append]
  rfl
theorem places_ints (l : List Nat) : placeR l = (l.map fun a : Nat => (a : Int)).map (Value.int .i64) := by
  unfold placeR
  rw [List.map_map]; rfl
theorem mem_ints (l : List Nat) (j : Nat) : ((j : Int) ∈ l.map fun a : Nat => (a : Int)) ↔ j ∈ l := by
  constructor
  · intro h
    obtain ⟨a, ha, he⟩ := List.mem_map.1 h
    have : a = j := by omega
    exact this ▸ ha
  · intro h; exact List.mem_map.2 ⟨j, h, rfl⟩
/-- The parts joined. -/
theorem parts_flat (m : Nat) (F : Nat → Nat → Nat) : ∀ K, ((List.range K).map fun j => (bytesOf m (F j)).data.toList).flatten = (List.range (K * m)).map fun p => UInt8.ofNat (F (p / m) (p % m))
  | 0 => by simp
  | K + 1 => by
    rw [List.range_succ, List.map_append, List.flatten_append, parts_flat m F K, Nat.succ_mul, List.range_add, List.map_append]
    congr 1
    simp only [List.map_cons, List.map_nil, List.flatten_cons, List.flatten_nil, List.append_nil, List.map_map]
    unfold bytesOf
    apply List.map_congr_left
    intro i hi
    have him := List.mem_range.1 hi
    show UInt8.ofNat (F K i) = UInt8.ofNat (F ((K * m + i) / m) ((K * m + i) % m))
    rw [Nat.mul_comm K m, Nat.mul_add_div (by omega), Nat.div_eq_of_lt him, Nat.mul_add_mod, Nat.mod_eq_of_lt him, Nat.add_zero]
theorem join_empty (L : List (List UInt8)) : Lib.join L [] = L.flatten := by
  cases L with
  | nil => rfl
  | cons x r =>
    rw [Lib.join_cons]
    unfold Lib.joinTail
    simp
theorem join_parts (m K t : Nat) (F : Nat → Nat → Nat) (ht : t ≤ K * m) :
    (⟨(Lib.join ((listOf K fun j => bytesOf m (F j)).map (·.data.toList)) (ByteArray.mk #[]).data.toList).toArray⟩ : ByteArray).extract 0 t = bytesOf t (fun p => F (p / m) (p % m)) := by
  have e : Lib.join ((listOf K fun j => bytesOf m (F j)).map (·.data.toList)) (ByteArray.mk #[]).data.toList = (List.range (K * m)).map fun p => UInt8.ofNat (F (p / m) (p % m)) := by
    rw [← parts_flat m F K]
    unfold listOf
    rw [List.map_map]
    exact join_empty _
  rw [e]
  unfold bytesOf
  apply ByteArray.ext
  rw [ByteArray.data_extract]
  apply Array.toList_inj.1
  simp
  rw [← List.map_take, List.take_range, Nat.min_eq_left ht]
end Go.Proofs.Ytioecklnijhjgaa
