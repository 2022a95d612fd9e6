/- slices.Repeat at one byte; bytes.ContainsRune at '1'. -/
import Derived.Test.YtmgpohomgblkkaaDoorCyc7
import Derived.Test.YtmgpohomgblkkaaDoorMulS
import Derived.Test.YtmgpohomgblkkaaDoorIdxS
import Derived.Laws.CopyOwn
import Derived.Deep.RegionHeld3
namespace Go.Proofs.YtmgpohomgblkkaaDoor
open Go.RowKit

def zRow (c n : Nat) : List Value := rowF c fun j => .int .u8 ((if j < n then 48 else 0 : Nat) : Int)
theorem zRow_len (c n : Nat) : (zRow c n).length = c := rowF_length _ _
theorem zRow_splice {c n L : Nat} (h : n + L ≤ c) : splice (zRow c n) n (List.replicate L (.int .u8 48)) = zRow c (n + L) := by
  apply List.ext_getElem?
  intro j
  unfold splice
  by_cases hj : j < n
  · rw [List.getElem?_append_left (by rw [List.length_take, zRow_len]; omega), List.getElem?_take, if_pos hj]
    unfold zRow
    rw [rowF_get _ (by omega), rowF_get _ (by omega), if_pos hj, if_pos (by omega)]
  · rw [List.getElem?_append_right (by rw [List.length_take, zRow_len]; omega), List.length_take, zRow_len, Nat.min_eq_left (by omega)]
    by_cases hj2 : j - n < L
    · rw [List.getElem?_append_left (by simpa using hj2), List.getElem?_replicate, if_pos hj2]
      unfold zRow
      rw [rowF_get _ (by omega), if_pos (by omega)]; rfl
    · rw [List.getElem?_append_right (by simpa using hj2), List.length_replicate, List.getElem?_drop, show n + L + (j - n - L) = j by omega]
      by_cases hjc : j < c
      · unfold zRow
        rw [rowF_get _ hjc, rowF_get _ hjc, if_neg (by omega), if_neg (by omega)]
      · rw [List.getElem?_eq_none (by rw [zRow_len]; omega), List.getElem?_eq_none (by rw [zRow_len]; omega)]
theorem zRow_cell {w : World} {G c n : Nat} {t : TypeId} (h : w.heap[G]? = some (.cells (zRow c n).toArray t (0, 0))) {j : Nat} (hj : j < c) : w.cell? ⟨G, j, none⟩ = some (.int .u8 ((if j < n then 48 else 0 : Nat) : Int)) := by
  have h1 := heap_cell h j
  rw [h1]
  show (zRow c n).toArray[j]? = _
  rw [List.getElem?_toArray]
  unfold zRow
  rw [rowF_get _ hj]
def ZPost (c : Nat) (w : World) (e : Ending) (w' : World) : Prop := ∃ G, e = .returned (.slice (some ⟨G, 0, none⟩) c c) ∧ Reads w' (some ⟨G, 0, none⟩) (rowF c fun _ => .int .u8 48) ∧ Below w.heap.size w w'
set_option maxRecDepth 20000 in
set_option maxHeartbeats 600000 in
theorem repeat_byte (g c cap : Nat) (w : World) (hc : 1 ≤ c) (hc2 : c ≤ 16) (hx : w.cell? ⟨g, 0, none⟩ = some (.int .u8 48)) :
    Calls Tryd.prog 9 #[.slice (some ⟨g, 0, none⟩) 1 cap, .int .i64 c] w (ZPost c w) := by
  have CM : Hid (∀ W, Calls Tryd.prog 16 #[.int .u64 1, .int .u64 (c : Int)] W fun e w' => e = .returned (.tuple #[.int .u64 0, .int .u64 (c : Int)]) ∧ w' = W) := Lib.hid (fun W => by
    have h := bits_Mul 1 c (by omega) (by omega) W
    rw [Nat.one_mul, Nat.div_eq_of_lt (by omega), Nat.mod_eq_of_lt (show c < 18446744073709551616 by omega)] at h
    exact h)
  have t1 : decide ((c : Int) < 0) = false := by simp
  have u1 : IntKind.u64.wrap (1 : Int) = 1 := rfl
  have u2 : IntKind.u64.wrap (c : Int) = (c : Int) := by
    simp only [IntKind.wrap, IntKind.signed, IntKind.bits]
    simp
    omega
  have u3 : IntKind.i64.wrap (c : Int) = (c : Int) := IntWalk.i64_in _ (by omega)
  have t2 : decide ((9223372036854775807 : Int) < (c : Int)) = false := by simp; omega
  have MK := fun W => mk_u8 c (by omega) W
  obtain ⟨G, hG⟩ : ∃ G, w.heap.size = G := ⟨_, rfl⟩
  have H0 : (w.alloc (.cells (zRow c 0).toArray 5)).heap[G]? = some (.cells (zRow c 0).toArray 5 (0, 0)) := by rw [← hG]; exact heap_alloc_new _ _
  have B0 : Below G w (w.alloc (.cells (zRow c 0).toArray 5)) := by rw [← hG]; exact (Below.refl _ _).alloc (Nat.le_refl _) _
  have hx2 := (B0.cell (p := ⟨g, 0, none⟩) (by rw [← hG]; exact World.block_lt_of_cell? w _ hx)).trans hx
  have hz0 : (rowF c fun _ => Value.int .u8 0) = zRow c 0 := by unfold zRow; exact rowF_congr fun j _ => by rw [if_neg (by omega)]; rfl
  have HG := Lib.hid hG
  go_enter Tryd.func9, Tryd.ntmps9
  go_wp2_with fail
  (with_reducible refine (CM.out _).mono ?_)
  rintro e w2 ⟨rfl, rfl⟩
  clear CM
  have hmin : ([.int .u8 48] : List Value).length = Nat.min 1 c := by show 1 = min 1 c; omega
  have hsrc : ∀ j v, ([.int .u8 48] : List Value)[j]? = some v → (w2.alloc (.cells (zRow c 0).toArray 5)).cell? ((⟨g, 0, none⟩ : Addr).add j) = some v := by
    intro j v hv
    cases j with
    | zero => simp at hv; subst hv; exact hx2
    | succ j => simp at hv
  go_wp2_with (first
    | (refine wpList_copy_splice rfl (.tmp 31) (.tmp 32) _ _ rfl 5 Tryd.underlying27 (by kernel_rfl) (some ⟨G, 0, none⟩) (some ⟨g, 0, none⟩) c c 1 cap (by rfl) (by rfl) G 0 (zRow c 0) 5 H0 [.int .u8 48] hmin (fun _ => ⟨rfl, _, rfl, hsrc⟩) (by rw [zRow_len]; show 0 + 1 ≤ c; omega) (by intro v hv; simp at hv; subst hv; rfl) G w2 B0 (Nat.le_refl _) ?_; intro w3 hh3 hb3)
    | fail)
  have HH : Hid (w3.heap[G]? = some (.cells (zRow c 1).toArray 5 (0, 0))) := Lib.hid (by
    have h := hh3.out
    rw [show ([.int .u8 48] : List Value) = List.replicate 1 (.int .u8 48) from rfl, zRow_splice (n := 0) (L := 1) (by omega)] at h
    exact h)
  have HB3 := Lib.hid hb3
  clear hh3 hb3 H0 B0 hx2 hsrc hmin MK hz0 hx
  go_loopw [8] (fun vi wr => ∃ n : Nat, vi = .int .i64 n ∧ 1 ≤ n ∧ n ≤ c ∧ Hid (wr.heap[G]? = some (.cells (zRow c n).toArray 5 (0, 0))) ∧ Hid (Below G w2 wr)) (fun vi _ => c - (intOf vi).toNat)
  case atStart => exact ⟨1, rfl, by omega, hc, HH, HB3⟩
  case round =>
    clear HH HB3
    obtain ⟨n, rfl, hn1, hn, HH, HB⟩ := hrel
    obtain ⟨wo, rfl⟩ : ∃ wo, wo = wr := ⟨_, rfl⟩
    by_cases hnc : n < c
    · obtain ⟨L, hL⟩ : ∃ L, min n (c - n) = L := ⟨_, rfl⟩
      have hL1 : 1 ≤ L := by omega
      have hLc : n + L ≤ c := by omega
      have hLn : L ≤ n := by omega
      have n0 : (0 : Int) ≤ (n : Int) := by omega
      have n1 : (n : Int) ≤ (c : Int) := by omega
      have n2 : n ≤ c := by omega
      have hcn : ¬ c = n := by omega
      have e1 : ((c : Int) - (n : Int)).toNat = c - n := by omega
      have hs2 : ∀ j v, (List.replicate L (Value.int .u8 48))[j]? = some v → wo.drew.cell? ((⟨G, 0, none⟩ : Addr).add j) = some v := by
        intro j v hv
        rw [List.getElem?_replicate] at hv
        split at hv
        · cases hv
          have h := zRow_cell HH.out (j := j) (by omega)
          rw [if_pos (by omega)] at h
          rw [Addr.add_lit, Nat.zero_add]
          exact h
        · cases hv
      have HD : wo.drew.heap[G]? = some (.cells (zRow c n).toArray 5 (0, 0)) := HH.out
      have BD : Below G w2 wo.drew := below_drew1 HB.out
      go_wp2_with fail
      have hk0 : wo.drew.cell? ⟨G, 0, none⟩ = some (.int .u8 48) := by have h := zRow_cell HD (j := 0) (by omega); rw [if_pos (by omega)] at h; exact h
      have hk1 : wo.cell? ⟨G, 0, none⟩ = some (.int .u8 48) := hk0
      go_region_held3 (fun w' => w'.cell? ⟨G, 0, none⟩ = some (.int .u8 48)) (first | exact hk4 | exact hk0 | exact hk1 | go_keep)
        ((refine step_copy_splice rfl (.tmp 41) (.tmp 44) _ _ (by rfl) 5 Tryd.underlying27 (by kernel_rfl) (some ⟨G, n, none⟩) (some ⟨G, 0, none⟩) (c - n) (c - n) n c (by rfl) (by rfl) G n (zRow c n) 5 HD (List.replicate L (.int .u8 48)) (by rw [List.length_replicate]; exact hL.symm) (fun _ => ⟨rfl, _, rfl, hs2⟩) (by rw [zRow_len, List.length_replicate]; exact hLc) (by intro v hv; rw [List.eq_of_mem_replicate hv]; rfl) G w2 BD (Nat.le_refl _) ?_; intro w4 hg4 hb4; have HG4 : Hid (w4.heap[G]? = some (.cells (zRow c (n + L)).toArray 5 (0, 0))) := Lib.hid (by rw [← zRow_splice hLc]; exact hg4.out); have HB4 := Lib.hid hb4; have hk4 : w4.cell? ⟨G, 0, none⟩ = some (.int .u8 48) := (by have h := zRow_cell HG4.out (j := 0) (by omega); rw [if_pos (by omega)] at h; exact h); clear hg4 hb4; rw [List.length_replicate]))
      all_goals
        have ex : (n : Int) + (L : Int) = ((n + L : Nat) : Int) := by omega
        have wx : IntKind.i64.wrap ((n + L : Nat) : Int) = ((n + L : Nat) : Int) := IntWalk.i64_in _ (by omega)
        rw [ex, wx]
        go_wp2_with fail
        go_roundw
        case rel => exact ⟨n + L, by first | rfl | go_num, by omega, hLc, HG4, HB4⟩
        case measure => simp [intOf]; omega
    · obtain rfl : n = c := by omega
      have RR : Reads wo (some ⟨G, 0, none⟩) (rowF n fun _ => .int .u8 48) := by
        intro j u hu
        have hj : j < n := by have := (List.getElem?_eq_some_iff.1 hu).1; rwa [rowF_length] at this
        rw [rowF_get _ hj] at hu
        cases hu
        have h := zRow_cell HH.out hj
        rw [if_pos hj] at h
        exact ⟨G, 0, rfl, by rw [Nat.zero_add]; exact h⟩
      have HRR := Lib.hid RR
      clear RR
      go_wp2_with fail
      go_ret
      exact ⟨G, rfl, HRR.out, by rw [HG.out]; exact HB.out⟩
set_option maxRecDepth 20000 in
set_option maxHeartbeats 1000000 in
theorem byt_IndexRune (g cap : Nat) (t : ByteArray) (w : World) (hc : Lib.Bytes w g 0 t) :
    Calls Tryd.prog 20 #[.slice (some ⟨g, 0, none⟩) t.size cap, .int .i32 49] w fun e w' => e = .returned (.int .i64 (Lib.indexByte t.data.toList 49)) ∧ w' = w := by
  have CI : Hid (Calls Tryd.prog 32 #[.slice (some ⟨g, 0, none⟩) t.size cap, .int .u8 49] w fun e w' => e = .returned (.int .i64 (Lib.indexByte t.data.toList 49)) ∧ w' = w) := Lib.hid (byt_IndexByte g 0 cap t 49 w hc)
  clear hc
  go_enter Tryd.func20, Tryd.ntmps20
  go_wp2_with fail
  (with_reducible refine CI.out.mono ?_)
  rintro e w2 ⟨rfl, rfl⟩
  go_wp2_with fail
  go_ret
  exact ⟨rfl, rfl⟩
theorem byt_ContainsRune (g cap : Nat) (t : ByteArray) (w : World) (hc : Lib.Bytes w g 0 t) :
    Calls Tryd.prog 11 #[.slice (some ⟨g, 0, none⟩) t.size cap, .int .i32 49] w fun e w' => e = .returned (.bool (hasOne t)) ∧ w' = w := by
  have CI := Lib.hid (byt_IndexRune g cap t w hc)
  clear hc
  unfold hasOne
  obtain ⟨x, hx⟩ : ∃ x, Lib.indexByte t.data.toList 49 = x := ⟨_, rfl⟩
  rw [hx] at CI ⊢
  clear hx
  go_enter Tryd.func11, Tryd.ntmps11
  go_wp2_with fail
  (with_reducible refine CI.out.mono ?_)
  rintro e w2 ⟨rfl, rfl⟩
  go_wp2_with fail
  go_ret
  exact ⟨rfl, rfl⟩
end Go.Proofs.YtmgpohomgblkkaaDoor
