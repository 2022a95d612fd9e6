/- From bytes to strings; pair.Put; the reference's PairOf. -/
import Derived.Test.YthnbhhfbmkklmaaPair1
import Derived.Test.YthnbhhfbmkklmaaMem2
import Derived.Test.YthnbhhfbmkklmaaPair2
namespace Go.Proofs.Ythnbhhfbmkklmaa
open Go.RowKit

def bytesOf (m : Nat) (f : Nat → Nat) : ByteArray := ⟨((List.range m).map fun k => UInt8.ofNat (f k)).toArray⟩
theorem bytesOf_size (m : Nat) (f : Nat → Nat) : (bytesOf m f).size = m := by simp [bytesOf, ByteArray.size]
theorem bytesOf_get {m : Nat} {f : Nat → Nat} {k : Nat} (hk : k < m) (hf : f k < 256) : byteS (bytesOf m f) k = f k := by
  unfold byteS bytesOf
  rw [List.getD_eq_getElem?_getD]
  simp [hk]
  omega
theorem bytesOf_congr {m : Nat} {f g : Nat → Nat} (h : ∀ k, k < m → f k = g k) : bytesOf m f = bytesOf m g := by
  unfold bytesOf
  congr 2
  exact List.map_congr_left fun k hk => by rw [h k (List.mem_range.1 hk)]
theorem bytesOf_self {s : ByteArray} {m : Nat} (h : s.size = m) : bytesOf m (byteS s) = s := by
  obtain ⟨d⟩ := s
  unfold bytesOf
  congr 1
  apply Array.toList_inj.1
  apply List.ext_getElem?
  intro k
  have hd : d.size = m := h
  by_cases hk : k < m
  · have h2 : k < d.size := by omega
    simp [byteS, hk, h2]
  · have h2 : ¬ k < d.size := by omega
    simp [byteS, hk, h2]
theorem bytesOf_inj {m : Nat} {f g : Nat → Nat} (hf : ∀ k, k < m → f k < 256) (hg : ∀ k, k < m → g k < 256) (h : bytesOf m f = bytesOf m g) : ∀ k, k < m → f k = g k := by
  intro k hk
  rw [← bytesOf_get hk (hf k hk), h, bytesOf_get hk (hg k hk)]
theorem conv_back (m : Nat) (f : Nat → Nat) (ao : Option Addr) (cap : Nat) (W : World) (hf : ∀ k, k < m → f k < 256) (hn : ao = none → m = 0) (hR : Reads W ao (rowF m fun k => .int .u8 (f k : Nat))) :
    (convert 101 9 (.slice ao m cap)).run Try.prog W = .ok (.string (bytesOf m f)) W := by
  cases ao with
  | none =>
    obtain rfl := hn rfl
    rw [run_convert_bytes_string W 101 9 5 none 0 cap Try.underlying101 Try.underlying5 Try.underlying9]
    rfl
  | some a =>
    have h := run_convert_bytes_back (P := Try.prog) W 101 9 5 a cap ((List.range m).map fun k => UInt8.ofNat (f k)) Try.underlying101 Try.underlying5 Try.underlying9 ?_
    · simp only [List.length_map, List.length_range] at h
      exact h
    · intro j hj
      simp only [List.length_map, List.length_range] at hj
      obtain ⟨b, o, ha, hc⟩ := hR j _ (rowF_get _ hj)
      cases ha
      rw [Addr.add_lit, hc]
      have := hf j hj
      simp
      omega
def PutPost (ss : List ByteArray) (n m : Nat) (w : World) (e : Ending) (w' : World) : Prop :=
  e = .returned (.tuple #[.string (bytesOf m fun k => xorN n (colP ss k)), .string (bytesOf m fun k => xorN n (wtd (colP ss k))), .int .i64 0]) ∧ Below w.heap.size w w'
def PutBad (E : Nat) (w : World) (e : Ending) (w' : World) : Prop :=
  e = .returned (.tuple #[.string ByteArray.empty, .string ByteArray.empty, .int .i64 (E : Nat)]) ∧ w = w'
theorem sum_lt (ss : List ByteArray) (n k : Nat) : xorN n (colP ss k) < 256 := xorN_lt fun _ _ => colP_lt _ _ _
theorem wsum_lt (ss : List ByteArray) (n k : Nat) : xorN n (wtd (colP ss k)) < 256 := xorN_lt fun _ _ => wtd_lt (colP_lt _ _ _)
set_option maxRecDepth 100000 in
set_option maxHeartbeats 2000000 in
theorem pair_Put (ss : List ByteArray) (n m : Nat) (ao : Option Addr) (cap : Nat) (w : World) (h : StrsIn w ao n ss) (hr : Right ss n m) (hc : chkP ss = 0) :
    Calls Try.prog 13 #[.slice ao n cap] w (PutPost ss n m w) := by
  have CC := Lib.hid (pair_check ss n ao cap w h)
  rw [hc] at CC
  have CS := Lib.hid (pair_sums ss n m ao cap [] 0 none 0 w hr (Lib.hid h.2.2.2) rfl (by omega) (Lib.hid (Reads.nil _ _)))
  unfold SumsPost at CS
  simp only [left_nil] at CS
  have HM := Lib.hid hr.m64
  clear hc h hr
  go_enter Try.func13, Try.ntmps13
  go_wp2_with fail
  (with_reducible refine CC.out.mono ?_)
  rintro e w1 ⟨rfl, rfl⟩
  go_wp2_with fail
  (with_reducible refine CS.out.mono ?_)
  rintro e w2 ⟨g1, g2, rfl, O1, O2, hne, hb⟩
  have k1 := conv_back m (fun k => xorN n (colP ss k)) (some ⟨g1, 0, none⟩) m w2 (fun k _ => sum_lt _ _ _) (fun h => by cases h) O1.reads
  have k2 := conv_back m (fun k => xorN n (wtd (colP ss k))) (some ⟨g2, 0, none⟩) m w2.drew (fun k _ => wsum_lt _ _ _) (fun h => by cases h) O2.reads
  have k3 := conv_back m (fun k => xorN n (colP ss k)) (some ⟨g1, 0, none⟩) m w2.drew (fun k _ => sum_lt _ _ _) (fun h => by cases h) O1.reads
  have k4 := conv_back m (fun k => xorN n (wtd (colP ss k))) (some ⟨g2, 0, none⟩) m w2 (fun k _ => wsum_lt _ _ _) (fun h => by cases h) O2.reads
  clear O1 O2
  have HB := Lib.hid hb
  clear hne hb
  go_wp2_with fail
  go_region
  all_goals
    go_wp2_with fail
    go_ret3
    exact ⟨rfl, below_drew1 HB.out⟩
set_option maxRecDepth 100000 in
set_option maxHeartbeats 2000000 in
theorem pair_Put_bad (ss : List ByteArray) (n : Nat) (ao : Option Addr) (cap : Nat) (w : World) (h : StrsIn w ao n ss) (E : Nat) (hE : chkP ss = E) (h0 : E ≠ 0) :
    Calls Try.prog 13 #[.slice ao n cap] w (PutBad E w) := by
  have CC := Lib.hid (pair_check ss n ao cap w h)
  rw [hE] at CC
  have hz : ((E : Int) == 0) = false := by simp; omega
  clear hE h
  go_enter Try.func13, Try.ntmps13
  go_wp2_with fail
  (with_reducible refine CC.out.mono ?_)
  rintro e w1 ⟨rfl, rfl⟩
  go_wp2_with fail
  go_ret3
  exact ⟨rfl, rfl⟩
end Go.Proofs.Ythnbhhfbmkklmaa
