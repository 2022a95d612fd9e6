/- Contract of reed.Mend. -/
import Derived.Test.YtioecklnijhjgaaRows
import Derived.Test.YtioecklnijhjgaaPlM11
import Derived.Test.YtioecklnijhjgaaPlM2
import Derived.Deep.RegionHeld3
set_option linter.unusedVariables false
set_option linter.unusedSimpArgs false
namespace Go.Proofs.Ytioecklnijhjgaa
open Go.RowKit

/-- The cells of a received row. -/
def cellV (H : Nat → Bool) (B : Nat → GF) (n : Nat) : List Value := cells2 ((List.range n).map fun i => (.bool (H i), gfV B i))
theorem cellV_get (H : Nat → Bool) (B : Nat → GF) {n i : Nat} (h : i < n) : (cellV H B n)[i * 2]? = some (.bool (H i)) ∧ (cellV H B n)[i * 2 + 1]? = some (.int .u8 (B i).val) := by
  have := cells2_get ((List.range n).map fun i => (Value.bool (H i), gfV B i)) i (.bool (H i), gfV B i) (by simp [h])
  exact this
def placeR (l : List Nat) : List Value := l.map fun (a : Nat) => Value.int .i64 ((a : Nat) : Int)
def byteR (B : Nat → GF) (l : List Nat) : List Value := l.map fun a => gfV B a
theorem placeR_snoc (l : List Nat) (a : Nat) : placeR (l ++ [a]) = placeR l ++ [.int .i64 (a : Int)] := by simp [placeR]
theorem byteR_snoc (B : Nat → GF) (l : List Nat) (a : Nat) : byteR B (l ++ [a]) = byteR B l ++ [.int .u8 ((B a).val : Int)] := by simp [byteR, gfV]

theorem placeR_row {P : List Nat} {k : Nat} (hk : k ≤ P.length) (hP : ∀ a ∈ P, a < 256) : placeR (P.take k) = rowF k (giV (atP P)) := by
  apply List.ext_getElem?
  intro j
  by_cases hj : j < k
  · rw [rowF_get _ hj]
    unfold placeR giV atP
    rw [List.getElem?_map, List.getElem?_take_of_lt hj, List.getD_eq_getElem?_getD, List.getElem?_eq_getElem (by omega)]
    simp only [Option.map_some, Option.getD_some]
    rw [gf_val (hP _ (List.getElem_mem _))]
  · rw [List.getElem?_eq_none (by simp [placeR]; omega), List.getElem?_eq_none (by rw [rowF_length]; omega)]
theorem byteR_row {P : List Nat} {k : Nat} (B : Nat → GF) (hk : k ≤ P.length) : byteR B (P.take k) = rowF k (gfV (byP B P)) := by
  apply List.ext_getElem?
  intro j
  by_cases hj : j < k
  · rw [rowF_get _ hj]
    unfold byteR gfV byP
    rw [List.getElem?_map, List.getElem?_take_of_lt hj, List.getD_eq_getElem?_getD, List.getElem?_eq_getElem (by omega)]
    rfl
  · rw [List.getElem?_eq_none (by simp [byteR]; omega), List.getElem?_eq_none (by rw [rowF_length]; omega)]
def MendPost (H : Nat → Bool) (B : Nat → GF) (P : List Nat) (n k : Nat) (w : World) (e : Ending) (w' : World) : Prop :=
  Below w.heap.size w w' ∧ ((P.length < k ∧ e = .returned (.tuple #[.slice none 0 0, .int .i64 9])) ∨ (k ≤ P.length ∧ ¬ Fit H B P k n ∧ e = .returned (.tuple #[.slice none 0 0, .int .i64 8])) ∨
    (k ≤ P.length ∧ Fit H B P k n ∧ ∃ v, e = .returned (.tuple #[v, .int .i64 0]) ∧ w'.ownsRow w.heap.size 5 1 v n (rowF n (gfV fun j => rowP B P k (gf j)))))
set_option maxRecDepth 100000 in
set_option maxHeartbeats 4000000 in
theorem reed_Mend (H : Nat → Bool) (B : Nat → GF) (n k : Nat) (ao : Option Addr) (cap : Nat) (w : World) (hn : n ≤ 20) (hk1 : 1 ≤ k) (hk2 : k ≤ n) (hR : Hid (Reads w ao (cellV H B n))) :
    Calls Try.prog 76 #[.slice ao n cap, .int .i64 k] w (MendPost H B (pl H n) n k w) := by
  have hc := reed_Check n k ao cap w
  have hce : chkE 20 n k = 0 := by unfold chkE; rw [if_neg (by omega), if_neg (by omega)]
  rw [hce] at hc
  have HC := Lib.hid hc
  clear hc hce
  go_enter Try.func76, Try.ntmps76
  go_wp2_with fail
  refine HC.out.mono ?_
  rintro e w' ⟨rfl, rfl⟩
  go_wp2_with fail
  go_loopw [7, 8, 9, 10, 22] (fun va vb _ _ vi wr => ∃ i : Nat, vi = .int .i64 i ∧ i ≤ n ∧ ∃ L : List Nat, Hid (L = (pl H i).take k) ∧ L.length ≤ n ∧ Hid (wr.ownsRow w.heap.size 3 1 va L.length (placeR L)) ∧ Hid (wr.ownsRow w.heap.size 5 1 vb L.length (byteR B L)) ∧ Hid (Apart va vb) ∧ Hid (Below w.heap.size w wr)) (fun _ _ _ _ vi _ => n - (intOf vi).toNat)
  case atStart => exact ⟨0, rfl, by omega, [], Lib.hid (by simp [pl]), by simp, Lib.hid (World.ownsRow_nil _ _ _ _), Lib.hid (World.ownsRow_nil _ _ _ _), (fun g h => by cases h), Below.refl _ _⟩
  case round =>
    obtain ⟨i, rfl, hin, L, hL, hLn, hra, hrb, hap, hb⟩ := hrel
    by_cases hi : i < n
    · obtain ⟨c1, c2⟩ := cellV_get H B hi
      obtain ⟨b1, o1, rfl, c1⟩ := (hR.out.below hb.out) _ _ c1
      obtain ⟨b2, o2, ha2, c2⟩ := (hR.out.below hb.out) _ _ c2
      injection ha2 with ha2
      injection ha2 with hb2 ho2
      subst hb2 ho2
      rw [← Nat.add_assoc] at c2
      obtain ⟨p, hp⟩ : ∃ p, H i = p := ⟨_, rfl⟩
      rw [hp] at c1
      have HP := Lib.hid hp
      clear hp
      cases p
      · have hL2 : Hid (L = (pl H (i + 1)).take k) := by
          show _ = _
          rw [hL.out, pl_succ, if_neg (by rw [HP.out]; decide)]
        go_wp2_with fail
        go_roundw
        case rel => exact ⟨i + 1, by go_num, by omega, L, hL2, hLn, Lib.hid (hra.out.alloc _), Lib.hid (hrb.out.alloc _), hap, Lib.hid (hb.out.alloc hb.out.size _)⟩
        case measure => simp [intOf]; omega
      · by_cases hlk : L.length < k
        · have l1 : decide ((L.length : Int) < k) = true := by simp; omega
          have l2 : decide (L.length < k) = true := by simp; omega
          obtain ⟨a7, c7, rfl, _, _, _⟩ := own_reads hra.out
          obtain ⟨a8, c8, rfl, _, _, _⟩ := own_reads hrb.out
          go_wp2_with fail
          have hm1 : Hid (L.length + 1 ≤ maxLen) := Lib.hid (by unfold maxLen; omega)
          have hm2 : Hid ((L.length + 1) * 8 ≤ 140737488355328) := Lib.hid (by omega)
          have hm3 : Hid ((L.length + 1) * 1 ≤ 140737488355328) := Lib.hid (by omega)
          go_region_held3 (fun w' => w'.cell? ⟨wr.heap.size, 1, none⟩ = some (.int .u8 ((B i).val : Int))) (first | go_keep | (exact (hgr8.cell (by first | go_keep | (simp; done)) (ownBlock_ne hrb.out (Nat.le_refl _)))) | (exact (hgr7.cell (by first | go_keep | (simp; done)) (ownBlock_ne hra.out (Nat.le_refl _)))))
            (first
              | (refine step_app_two ?_ (.tmp 35) (.tmp 37) 53 ?_ w.heap.size 3 _ 8 Try.underlying53 i64Info (.slice a7 L.length c7) L.length (placeR L) ?_ wr hra.out 5 (.slice a8 L.length c8) L.length (byteR B L) hrb.out hap.out w hb.out (Nat.le_refl _) ?_ ?_ (.int .i64 (i : Int)) ?_ ?_ rfl hm1.out hm2.out ?_; (focus rfl); (focus rfl); (focus rfl); (focus (repeat (first | (with_reducible exact Below.refl _ _) | (with_reducible apply below_drew1) | (with_reducible apply below_drewN) | (with_reducible refine Below.alloc ?_ (by simp; try omega) _) | fail))); rotate_left; (focus rfl); (focus (repeat (first | (with_reducible exact heap_new' _ _ _ (by simp; try omega)) | (with_reducible apply heap_drew) | (with_reducible apply heap_drewN) | (with_reducible apply heap_alloc_old) | fail))); intro g7 p7 w7 hr7 hr8 hap7 hb7 hgr7)
              | (refine step_app_two ?_ (.tmp 39) (.tmp 42) 73 ?_ w.heap.size 5 _ 1 Try.underlying73 u8Info (.slice a8 L.length c8) L.length (byteR B L) ?_ w7 hr8 3 _ _ _ hr7 hap7.symm w hb7 (Nat.le_refl _) ?_ ?_ (.int .u8 ((B i).val : Int)) ?_ ?_ rfl hm1.out hm3.out ?_; (focus rfl); (focus rfl); (focus rfl); (focus (repeat (first | (with_reducible exact Below.refl _ _) | (with_reducible apply below_drew1) | (with_reducible apply below_drewN) | (with_reducible refine Below.alloc ?_ (by simp; try omega) _) | fail))); rotate_left; (focus rfl); (focus (repeat (first | (with_reducible exact heap_new' _ _ _ (by simp; try omega)) | (with_reducible apply heap_drew) | (with_reducible apply heap_drewN) | (with_reducible apply heap_alloc_old) | (with_reducible refine heap_grown_old hgr7 ?_ (ownBlock_ne hra.out (by omega))) | fail))); intro g8 p8 w8 hs8 hs7 hap8 hb8 hgr8)
              | fail)
          all_goals
            have hL2 : Hid (L ++ [i] = (pl H (i + 1)).take k) := by
              have hlen : (pl H i).length < k := by
                have h1 := congrArg List.length hL.out
                rw [List.length_take] at h1
                omega
              show _ = _
              rw [pl_succ, if_pos (by rw [HP.out]), take_grow, if_pos hlen, hL.out]
            have HS8 : Hid (w8.ownsRow w.heap.size 5 1 (.slice (some ⟨g8, 0, none⟩) (L.length + 1) p8) (L ++ [i]).length (byteR B (L ++ [i]))) := by
              show World.ownsRow _ _ _ _ _ _ _
              rw [byteR_snoc, List.length_append]; exact hs8
            have HS7 : Hid (w8.ownsRow w.heap.size 3 1 (.slice (some ⟨g7, 0, none⟩) (L.length + 1) p7) (L ++ [i]).length (placeR (L ++ [i]))) := by
              show World.ownsRow _ _ _ _ _ _ _
              rw [placeR_snoc, List.length_append]; exact hs7
            have HA := Lib.hid hap8.symm
            have HB := Lib.hid hb8
            have HLn : (L ++ [i]).length ≤ n := by simp; omega
            clear hs8 hs7 hap8 hb8 hgr8 hgr7 hb7 hap7 hr7 hr8
            go_wp2_with fail
            go_roundw
            case rel => exact ⟨i + 1, by go_num, by omega, L ++ [i], hL2, HLn, HS7, HS8, HA, HB⟩
            case measure => simp [intOf]; omega
        · have l1 : decide ((L.length : Int) < k) = false := by simp; omega
          have l2 : decide (L.length < k) = false := by simp; omega
          have hL2 : Hid (L = (pl H (i + 1)).take k) := by
            have hlen : ¬ (pl H i).length < k := by
              have h1 := congrArg List.length hL.out
              rw [List.length_take] at h1
              omega
            show _ = _
            rw [pl_succ, if_pos (by rw [HP.out]), take_grow, if_neg hlen, hL.out]
          obtain ⟨a7, c7, rfl, _, _, _⟩ := own_reads hra.out
          go_wp2_with fail
          go_roundw
          case rel => exact ⟨i + 1, by go_num, by omega, L, hL2, hLn, Lib.hid (hra.out.alloc _), Lib.hid (hrb.out.alloc _), hap, Lib.hid (hb.out.alloc hb.out.size _)⟩
          case measure => simp [intOf]; omega
    · have hi2 : i = n := by omega
      obtain ⟨P, hP⟩ : ∃ P, pl H n = P := ⟨_, rfl⟩
      have hPm : ∀ a ∈ P, a < 256 := fun a ha => by rw [← hP] at ha; have := (mem_pl.1 ha).1; omega
      have hL1 := hL.out
      rw [hi2, hP] at hL1
      have HPP := Lib.hid hP
      have hll : L.length = min k P.length := by rw [hL1, List.length_take]
      clear hL hP
      by_cases hlk : P.length < k
      · have l1 : decide ((L.length : Int) < k) = true := by simp; omega
        have l2 : decide (L.length < k) = true := by simp; omega
        obtain ⟨a7, c7, rfl, _, _, _⟩ := own_reads hra.out
        go_wp2_with fail
        go_ret2
        exact ⟨hb.out, .inl ⟨by rw [HPP.out]; exact hlk, rfl⟩⟩
      · have hkP : k ≤ P.length := by omega
        have l1 : decide ((L.length : Int) < k) = false := by simp; omega
        have l2 : decide (L.length < k) = false := by simp; omega
        have hlk2 : L.length = k := by omega
        obtain ⟨a7, c7, rfl, ra7, _, _⟩ := own_reads hra.out
        obtain ⟨a8, c8, rfl, ra8, _, _⟩ := own_reads hrb.out
        rw [hL1, placeR_row hkP hPm] at ra7
        rw [hL1, byteR_row B hkP] at ra8
        have R7 := Lib.hid ra7
        have R8 := Lib.hid ra8
        have hk256 : k ≤ 256 := by omega
        rw [hlk2] at l1 l2 ⊢
        have HKP := Lib.hid hkP
        have HPM := Lib.hid hPm
        clear ra7 ra8 hra hrb hap hL1 hll hLn hlk2 hlk
        go_wp2_with fail
        refine (reed_Row (atP P) (byP B P) k n a7 a8 c7 c8 wr hk256 (by omega) R7 R8).mono ?_
        rintro e w1 ⟨g, cp, rfl, hO, hb1⟩
        have HO : Hid (Own w1 w.heap.size 5 g n cp (gfV fun j => rowP B P k (gf j))) := own_mono hO hb.out.size
        have HB1 := Lib.hid (hb.out.trans (Below.mono hb1 hb.out.size))
        clear hO hb1
        go_wp2_with fail
        go_loopw [12, 13, 56] (fun _ _ vi wr => ∃ i : Nat, vi = .int .i64 i ∧ i ≤ n ∧ Hid (∀ a, a < i → H a = true → rowP B P k (gf a) = B a) ∧ Hid (Own wr w.heap.size 5 g n cp (gfV fun j => rowP B P k (gf j))) ∧ Hid (Below w.heap.size w wr)) (fun _ _ vi _ => n - (intOf vi).toNat)
        case atStart => exact ⟨0, rfl, by omega, Lib.hid (by intro a ha; omega), HO, HB1⟩
        case round =>
          obtain ⟨i, rfl, hin, hall, hO, hb⟩ := hrel
          by_cases hi : i < n
          · obtain ⟨c1, c2⟩ := cellV_get H B hi
            obtain ⟨b1, o1, rfl, c1⟩ := (hR.out.below hb.out) _ _ c1
            obtain ⟨b2, o2, ha2, c2⟩ := (hR.out.below hb.out) _ _ c2
            injection ha2 with ha2
            injection ha2 with hb2 ho2
            subst hb2 ho2
            rw [← Nat.add_assoc] at c2
            obtain ⟨p, hp⟩ : ∃ p, H i = p := ⟨_, rfl⟩
            rw [hp] at c1
            have HP := Lib.hid hp
            clear hp
            cases p
            · have hall2 : Hid (∀ a, a < i + 1 → H a = true → rowP B P k (gf a) = B a) := by
                intro a ha hh
                rcases Nat.lt_or_ge a i with h | h
                · exact hall.out a h hh
                · obtain rfl : a = i := by omega
                  rw [HP.out] at hh; cases hh
              go_wp2_with fail
              go_quiet (fail)
              go_wp2_with fail
              go_roundw
              case rel => exact ⟨i + 1, by go_num, by omega, hall2, Lib.hid ((hO.out.below (Below.alloc (Below.refl _ _) (Nat.le_refl _) _)).drewN _), Lib.hid (below_drewN (hb.out.alloc hb.out.size _) _)⟩
              case measure => simp [intOf]; omega
            · have hOa := Lib.hid (hO.out.below (Below.alloc (Below.refl _ wr) (Nat.le_refl _) (.cells #[.bool true, .int .u8 ((B i).val : Int)] 122)))
              have c3 := hOa.out.cell hi
              have hii : (i : Int) < n := by omega
              have hi0 : (0 : Int) ≤ i := by omega
              unfold gfV at c3
              dsimp only at c3
              by_cases hv : rowP B P k (gf i) = B i
              · have hall2 : Hid (∀ a, a < i + 1 → H a = true → rowP B P k (gf a) = B a) := by
                  intro a ha hh
                  rcases Nat.lt_or_ge a i with h | h
                  · exact hall.out a h hh
                  · obtain rfl : a = i := by omega
                    exact hv
                rw [hv] at c3
                have d1 : (((B i).val : Int) != ((B i).val : Int)) = false := by simp
                clear hv
                go_wp2_with fail
                go_quiet (fail)
                go_wp2_with fail
                go_roundw
                case rel => exact ⟨i + 1, by go_num, by omega, hall2, Lib.hid ((hO.out.below (Below.alloc (Below.refl _ _) (Nat.le_refl _) _)).drewN _), Lib.hid (below_drewN (hb.out.alloc hb.out.size _) _)⟩
                case measure => simp [intOf]; omega
              · obtain ⟨y, hy⟩ : ∃ y, (rowP B P k (gf i)).val = y := ⟨_, rfl⟩
                rw [hy] at c3
                have d1 : (((B i).val : Int) != (y : Int)) = true := by
                  rw [← hy]
                  simp only [bne_iff_ne, ne_eq]
                  intro h
                  exact hv (GF.ext (by omega))
                have hnf : Hid (¬ Fit H B P k n) := fun h => hv (h i hi HP.out)
                clear hv hy
                go_wp2_with fail
                go_quiet (fail)
                go_wp2_with fail
                go_ret2
                exact ⟨below_drewN (hb.out.alloc hb.out.size _) _, .inr (.inl ⟨by rw [HPP.out]; exact HKP.out, by rw [HPP.out]; exact hnf.out, rfl⟩)⟩
          · have hfin : Hid (Fit H B P k n) := by
              intro a ha hh
              exact hall.out a (by omega) hh
            go_wp2_with fail
            go_ret2
            exact ⟨hb.out, .inr (.inr ⟨by rw [HPP.out]; exact HKP.out, by rw [HPP.out]; exact hfin.out, _, rfl, by rw [HPP.out]; exact hO.out⟩)⟩
end Go.Proofs.Ytioecklnijhjgaa
