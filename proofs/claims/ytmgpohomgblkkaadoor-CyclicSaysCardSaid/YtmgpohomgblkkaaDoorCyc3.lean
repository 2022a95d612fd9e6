/- The reference's Binary, ByErr, Numbers. -/
import Derived.Test.YtmgpohomgblkkaaDoorCyc2
import Derived.Test.YtmgpohomgblkkaaDoorPoly8
namespace Go.Proofs.YtmgpohomgblkkaaDoor
open Go.RowKit

theorem bitsB_iff (s : ByteArray) : bitsB s = true ↔ ∀ k, k < s.size → byteS s k = 48 ∨ byteS s k = 49 := by
  constructor
  · exact fun h k hk => byteS_bit h hk
  · intro h
    unfold bitsB
    rw [List.all_eq_true]
    intro x hx
    obtain ⟨k, hk, rfl⟩ := List.getElem_of_mem hx
    have hk2 : k < s.size := by simpa using hk
    have h1 := h k hk2
    unfold byteS at h1
    rw [List.getD_eq_getElem?_getD, List.getElem?_eq_getElem hk] at h1
    unfold isBit
    simp only [List.contains_cons, List.contains_nil, Bool.or_false, Bool.or_eq_true, beq_iff_eq]
    rcases h1 with h1 | h1
    · left; exact UInt8.toNat_inj.1 h1
    · right; exact UInt8.toNat_inj.1 h1
set_option maxRecDepth 20000 in
set_option maxHeartbeats 2000000 in
theorem ref_Binary (s : ByteArray) (w : World) (hs : s.size ≤ 9223372036854775807) :
    Calls Tryd.prog 8 #[.string s] w (BoolB (bitsB s) w) := by
  have BS := run_bytes_of_string (P := Tryd.prog) w 9 27 5 s Tryd.underlying9 Tryd.underlying27 Tryd.underlying5
  obtain ⟨gc, hgc⟩ : ∃ gc, grownCap w s.size 0 5 = gc := ⟨_, rfl⟩
  rw [hgc] at BS
  obtain ⟨gb, hgb⟩ : ∃ gb, w.heap.size = gb := ⟨_, rfl⟩
  have RC : RowC (w.drew.alloc (.cells (bytesRow s gc) 5 ((bytesRow s gc).size, (bytesRow s gc).size + 1))) gb s.size (fun j => .int .u8 (byteS s j : Nat)) := by rw [← hgb]; exact rowC_of_string w.drew s gc
  have B7 : Below w.heap.size w (w.drew.alloc (.cells (bytesRow s gc) 5 ((bytesRow s gc).size, (bytesRow s gc).size + 1))) := (below_dr _ _ 1).alloc (Nat.le_refl _) _
  obtain ⟨W7, hW7⟩ : ∃ W7, w.drew.alloc (.cells (bytesRow s gc) 5 ((bytesRow s gc).size, (bytesRow s gc).size + 1)) = W7 := ⟨_, rfl⟩
  rw [hW7] at BS RC B7
  rw [hgb] at BS
  have HRC := Lib.hid RC
  have HB7 := Lib.hid B7
  clear RC B7 hW7 hgc hgb
  go_enter Tryd.func8, Tryd.ntmps8
  go_wp2_with fail
  clear BS
  go_loop [8] (fun vi => ∃ k : Nat, k ≤ s.size ∧ vi = .int .i64 k ∧ Hid (∀ j, j < k → byteS s j = 48 ∨ byteS s j = 49)) (fun vi => s.size - (intOf vi).toNat)
  case atStart => exact ⟨0, Nat.zero_le _, rfl, Lib.hid (fun j hj => by omega)⟩
  case round =>
    obtain ⟨k, hk, rfl, HK⟩ := hrel
    by_cases hlt : k < s.size
    · have c1 : W7.cell? ⟨gb, k, none⟩ = some (.int .u8 (byteS s k : Nat)) := (HRC.out k hlt).1
      obtain ⟨c, hc⟩ : ∃ c, byteS s k = c := ⟨_, rfl⟩
      have HC := Lib.hid hc
      rw [hc] at c1
      have k0 : (0 : Int) ≤ (k : Int) := by omega
      have k1 : (k : Int) < (s.size : Int) := by omega
      clear hc
      by_cases h48 : c = 48
      · have t1 : ((c : Int) == 48) = true := by simp; omega
        have t1n : ((c : Int) != 48) = false := by simp; omega
        have HK2 : Hid (∀ j, j < k + 1 → byteS s j = 48 ∨ byteS s j = 49) := Lib.hid (fun j hj => by
          by_cases hjk : j = k
          · subst hjk; exact .inl (HC.out.trans h48)
          · exact HK.out j (by omega))
        clear h48
        go_wp2_with fail
        go_round
        case rel => exact ⟨k + 1, by omega, by go_num, HK2⟩
        case measure => simp [intOf]; omega
      · have t1 : ((c : Int) == 48) = false := by simp; omega
        have t1n : ((c : Int) != 48) = true := by simp; omega
        by_cases h49 : c = 49
        · have t2 : ((c : Int) == 49) = true := by simp; omega
          have t2n : ((c : Int) != 49) = false := by simp; omega
          have HK2 : Hid (∀ j, j < k + 1 → byteS s j = 48 ∨ byteS s j = 49) := Lib.hid (fun j hj => by
            by_cases hjk : j = k
            · subst hjk; exact .inr (HC.out.trans h49)
            · exact HK.out j (by omega))
          clear h48 h49
          go_wp2_with fail
          go_round
          case rel => exact ⟨k + 1, by omega, by go_num, HK2⟩
          case measure => simp [intOf]; omega
        · have t2 : ((c : Int) == 49) = false := by simp; omega
          have t2n : ((c : Int) != 49) = true := by simp; omega
          have HF : Hid (bitsB s = false) := Lib.hid (by
            cases hb : bitsB s with
            | false => rfl
            | true => exact absurd ((bitsB_iff s).1 hb k hlt) (by have := HC.out; omega))
          clear h48 h49
          go_wp2_with fail
          go_ret
          exact ⟨by rw [HF.out]; rfl, HB7.out⟩
    · have HF : Hid (bitsB s = true) := Lib.hid ((bitsB_iff s).2 fun j hj => HK.out j (by omega))
      go_wp2_with fail
      go_ret
      exact ⟨by rw [HF.out]; rfl, HB7.out⟩
end Go.Proofs.YtmgpohomgblkkaaDoor
