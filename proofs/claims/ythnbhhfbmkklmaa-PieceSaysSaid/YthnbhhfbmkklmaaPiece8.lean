/- The reference's JoinOf. -/
import Derived.Test.YthnbhhfbmkklmaaPiece5
import Derived.Test.YthnbhhfbmkklmaaPiece6
import Derived.Test.YthnbhhfbmkklmaaReed7
import Derived.Test.YthnbhhfbmkklmaaContI
import Derived.Test.YthnbhhfbmkklmaaJoinS
namespace Go.Proofs.Ythnbhhfbmkklmaa
open Go.RowKit

theorem cellInfoQ : ElemRow Try.prog 117 (.agg #[.bool false, .int .u8 0]) 2 2 := elemRow_of (by kernel_rfl) rfl (by omega)
theorem i64InfoJ : ElemRow Try.prog 3 (.int .i64 0) 1 8 := elemRow_of (by kernel_rfl) rfl (by omega)
/-- MendOf by the places in their order. -/
theorem ref_MendOf_pl (H : Nat → Bool) (B : Nat → GF) (n k : Nat) (ao : Option Addr) (cap : Nat) (w : World) (hn : n ≤ 20) (hk1 : 1 ≤ k) (hk2 : k ≤ n) (hR : Hid (Reads w ao (cellV H B n))) :
    Calls Try.prog 68 #[.slice ao n cap, .int .i64 k] w (MendPost H B (pl H n) n k w) := by
  refine (ref_MendOf H B n k ao cap w hn hk1 hk2 hR).mono ?_
  rintro e w' ⟨hb, hh⟩
  have hl : (pd H n n).length = (pl H n).length := by rw [pd_all, List.length_reverse]
  rw [hl] at hh
  refine ⟨hb, ?_⟩
  rcases hh with ⟨a1, rfl⟩ | ⟨a1, a2, rfl⟩ | ⟨a1, a2, v, rfl, hv⟩
  · exact .inl ⟨a1, rfl⟩
  · exact .inr (.inl ⟨a1, fun h => a2 ((fit_iff (by omega) a1).1.1 h), rfl⟩)
  · have hf := (fit_iff (by omega) a1).1.2 a2
    have hs := (fit_iff (by omega) a1).2 hf
    refine .inr (.inr ⟨a1, hf, v, rfl, ?_⟩)
    have e : rowF n (gfV fun j => rowP B (pl H n) k (gf j)) = rowF n (gfV fun j => rowP B (pd H n n) k (gf j)) := rowF_congr fun j _ => by
      unfold gfV; dsimp only; rw [hs]
    rw [e]; exact hv
theorem cellV_snoc (H : Nat → Bool) (B : Nat → GF) (j : Nat) : cellV H B (j + 1) = cellV H B j ++ [.bool (H j), gfV B j] := by
  unfold cellV cells2
  rw [List.range_succ, List.map_append, List.flatMap_append]
  rfl
theorem places_ints (l : List Nat) : placeR l = (l.map fun a : Nat => (a : Int)).map (Value.int .i64) := by
  unfold placeR
  rw [List.map_map]; rfl
theorem mem_ints (l : List Nat) (j : Nat) : ((j : Int) ∈ l.map fun a : Nat => (a : Int)) ↔ j ∈ l := by
  constructor
  · intro h
    obtain ⟨a, ha, he⟩ := List.mem_map.1 h
    have : a = j := by omega
    exact this ▸ ha
  · intro h; exact List.mem_map.2 ⟨j, h, rfl⟩
/-- The parts joined. -/
theorem parts_flat (m : Nat) (F : Nat → Nat → Nat) : ∀ K, ((List.range K).map fun j => (bytesOf m (F j)).data.toList).flatten = (List.range (K * m)).map fun p => UInt8.ofNat (F (p / m) (p % m))
  | 0 => by simp
  | K + 1 => by
    rw [List.range_succ, List.map_append, List.flatten_append, parts_flat m F K, Nat.succ_mul, List.range_add, List.map_append]
    congr 1
    simp only [List.map_cons, List.map_nil, List.flatten_cons, List.flatten_nil, List.append_nil, List.map_map]
    unfold bytesOf
    apply List.map_congr_left
    intro i hi
    have him := List.mem_range.1 hi
    show UInt8.ofNat (F K i) = UInt8.ofNat (F ((K * m + i) / m) ((K * m + i) % m))
    rw [Nat.mul_comm K m, Nat.mul_add_div (by omega), Nat.div_eq_of_lt him, Nat.mul_add_mod, Nat.mod_eq_of_lt him, Nat.add_zero]
theorem join_empty (L : List (List UInt8)) : Lib.join L [] = L.flatten := by
  cases L with
  | nil => rfl
  | cons x r =>
    rw [Lib.join_cons]
    unfold Lib.joinTail
    simp
theorem join_parts (m K t : Nat) (F : Nat → Nat → Nat) (ht : t ≤ K * m) :
    (⟨(Lib.join ((listOf K fun j => bytesOf m (F j)).map (·.data.toList)) (ByteArray.mk #[]).data.toList).toArray⟩ : ByteArray).extract 0 t = bytesOf t (fun p => F (p / m) (p % m)) := by
  have e : Lib.join ((listOf K fun j => bytesOf m (F j)).map (·.data.toList)) (ByteArray.mk #[]).data.toList = (List.range (K * m)).map fun p => UInt8.ofNat (F (p / m) (p % m)) := by
    rw [← parts_flat m F K]
    unfold listOf
    rw [List.map_map]
    exact join_empty _
  rw [e]
  unfold bytesOf
  apply ByteArray.ext
  rw [ByteArray.data_extract]
  apply Array.toList_inj.1
  simp
  rw [← List.map_take, List.take_range, Nat.min_eq_left ht]
end Go.Proofs.Ythnbhhfbmkklmaa
