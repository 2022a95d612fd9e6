/- Contract of the reference's RowOf; the small checks of package reed; slices.Equal at bytes. -/
import Derived.Test.YthnbhhfbmkklmaaRows
import Derived.Test.YthnbhhfbmkklmaaReed2
import Derived.Test.YthnbhhfbmkklmaaReed3
namespace Go.Proofs.Ythnbhhfbmkklmaa
open Go.RowKit

def RowOfPost (xs ys : Nat → GF) (k n : Nat) (w : World) (e : Ending) (w' : World) : Prop :=
  ∃ v, e = .returned v ∧ w'.ownsRow w.heap.size 5 1 v n (rowF n (gfV fun j => lag xs ys k (gf j))) ∧ Below w.heap.size w w'
theorem hor_lag (xs ys : Nat → GF) (k : Nat) (hk : 1 ≤ k) (hd : ∀ i j, i < k → j < k → i ≠ j → xs i ≠ xs j) (x : GF) : horN xs (fun j => dd xs ys j j) x 0 k = lag xs ys k x := by
  obtain ⟨n, rfl⟩ : ∃ n, k = n + 1 := ⟨k - 1, by omega⟩
  rw [← newt_hor gfld, lag_newt gfld xs ys n hd]
set_option maxRecDepth 100000 in
set_option maxHeartbeats 2000000 in
theorem ref_RowOf (xs ys : Nat → GF) (k n : Nat) (ao bo : Option Addr) (cap cap2 : Nat) (w : World) (hk1 : 1 ≤ k) (hk : k ≤ 256) (hn : n ≤ 256) (hdist : Hid (∀ i j, i < k → j < k → i ≠ j → xs i ≠ xs j)) (hx : Hid (Reads w ao (rowF k (gfV xs)))) (hy : Hid (Reads w bo (rowF k (gfV ys)))) :
    Calls Try.prog 67 #[.slice ao k cap, .slice bo k cap2, .int .i64 n] w (RowOfPost xs ys k n w) := by
  go_enter Try.func67, Try.ntmps67
  go_wp2_with fail
  refine (ref_Steps xs ys k ao bo cap cap2 w hk1 hk hx hy).mono ?_
  rintro e w1 ⟨g, cp, rfl, hO, hb1⟩
  have HO := Lib.hid hO
  have HB1 := Lib.hid hb1
  clear hO hb1
  go_wp2_with fail
  go_loopw [8, 14] (fun vo vx wr => ∃ x : Nat, vx = .int .i64 x ∧ x ≤ n ∧ Hid (wr.ownsRow w.heap.size 5 1 vo x (rowF x (gfV fun j => lag xs ys k (gf j)))) ∧ Hid (Own wr w.heap.size 5 g k cp (gfV fun j => dd xs ys j j)) ∧ Hid (∀ r, vo.ownBlock = some r → r ≠ g) ∧ Hid (Below w.heap.size w wr)) (fun _ vx _ => n - (intOf vx).toNat)
  case atStart => exact ⟨0, rfl, by omega, World.ownsRow_nil _ _ _ _, HO, fun r h => (by cases h), HB1⟩
  case round =>
    obtain ⟨x, rfl, hxn, hrow, hO, hap, hb⟩ := hrel
    by_cases hx1 : x < n
    · have hx2 : x < 256 := by omega
      have e1 := wrap_u8 x hx2
      obtain ⟨y, hy2⟩ : ∃ y, (horN xs (fun j => dd xs ys j j) (gf x) 0 k).val = y := ⟨_, rfl⟩
      have C := Lib.hid (fun W hx hd => ref_Through xs (fun j => dd xs ys j j) x k ao (some ⟨g, 0, none⟩) cap cp W hx2 hk hx hd)
      rw [hy2] at C
      have hv : Hid (Value.int .u8 (y : Int) = gfV (fun j => lag xs ys k (gf j)) x) := by
        show _ = _
        unfold gfV
        rw [← hy2, hor_lag xs ys k hk1 hdist.out]
      have hX := Lib.hid (hx.out.below hb.out)
      have hRO := Lib.hid hO.out.reads
      clear hy2
      go_wp2_with fail
      refine (C.out _ hX.out hRO).mono ?_
      rintro e w' ⟨rfl, q, rfl⟩
      have hrow2 := Lib.hid (own_below hrow.out (below_dr wr.heap.size wr q))
      have hO2 := Lib.hid (hO.out.drewN q)
      have hb2 := Lib.hid (below_drewN hb.out q)
      obtain ⟨wq, hwq⟩ : ∃ wq, wr.drewN q = wq := ⟨_, rfl⟩
      rw [hwq] at hrow2 hO2 hb2 ⊢
      clear hwq
      go_wp2_with (at_builtin; go_must (refine app_one2 rfl (.tmp 17) (.tmp 23) _ rfl w.heap.size 5 _ 1 1 Try.underlying101 u8Info u8 x (rowF x (gfV fun j => lag xs ys k (gf j))) (by rfl) hrow2.out [.int .u8 (y : Int)] (by rfl) rfl (by intro u hu; simp at hu; subst hu; rfl) (by unfold maxLen; omega) (by omega) hb2.out.size ?_); intro v2 w2 hown2 hgr2 hb3 hat2)
      have hrow3 : Hid (w2.ownsRow w.heap.size 5 1 v2 (x + 1) (rowF (x + 1) (gfV fun j => lag xs ys k (gf j)))) := by
        show World.ownsRow _ _ _ _ _ _ _
        rw [rowF_succ, ← hv.out]; exact hown2
      have hO3 : Hid (Own w2 w.heap.size 5 g k cp (gfV fun j => dd xs ys j j)) := World.ownsRow.kept (World.ownsRow.alloc hO2.out _) hgr2 (by
        right
        intro h
        exact hap.out g h.symm rfl)
      have hap3 : Hid (∀ r, v2.ownBlock = some r → r ≠ g) := by
        intro r hr
        rcases hat2 with h | h
        · exact hap.out r (by rw [← h]; exact hr)
        · rw [h] at hr; injection hr with hr; have := hO2.out.lt; omega
      have hb4 := Lib.hid (hb2.out.trans hb3)
      clear hown2 hgr2 hat2 hb3
      go_roundw
      case rel => exact ⟨x + 1, by go_num, by omega, hrow3, hO3, hap3, hb4⟩
      case measure => simp [intOf]; omega
    · have hfin : Hid (RowOfPost xs ys k n w (.returned u8) wr) := by
        have : x = n := by omega
        exact ⟨u8, rfl, by rw [← this]; exact hrow.out, hb.out⟩
      go_wp2_with fail
      go_ret
      exact hfin.out
end Go.Proofs.Ythnbhhfbmkklmaa
