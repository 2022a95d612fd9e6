/- Contract of the reference's MendOf. -/
import Derived.Test.YtioecklnijhjgaaRows
import Derived.Test.YtioecklnijhjgaaReed6
import Derived.StillTailTactics
import Derived.Test.YtioecklnijhjgaaPlM0
import Derived.Test.YtioecklnijhjgaaPlM1
set_option linter.unusedVariables false
set_option linter.unusedSimpArgs false
namespace Go.Proofs.Ytioecklnijhjgaa
open Go.RowKit

/-- Places as bytes. -/
def placeB (l : List Nat) : List Value := l.map fun (a : Nat) => Value.int .u8 ((a : Nat) : Int)
theorem placeB_snoc (l : List Nat) (a : Nat) : placeB (l ++ [a]) = placeB l ++ [.int .u8 (a : Int)] := by simp [placeB]
theorem placeB_row {P : List Nat} {k : Nat} (hk : k ≤ P.length) (hP : ∀ a ∈ P, a < 256) : (placeB P).take k = rowF k (gfV (atP P)) := by
  apply List.ext_getElem?
  intro j
  by_cases hj : j < k
  · rw [rowF_get _ hj, List.getElem?_take_of_lt hj]
    unfold placeB gfV atP
    rw [List.getElem?_map, List.getD_eq_getElem?_getD, List.getElem?_eq_getElem (by omega)]
    simp only [Option.map_some, Option.getD_some]
    rw [gf_val (hP _ (List.getElem_mem _))]
  · rw [List.getElem?_eq_none (by simp [placeB]; omega), List.getElem?_eq_none (by rw [rowF_length]; omega)]
theorem byteR_row' {P : List Nat} {k : Nat} (B : Nat → GF) (hk : k ≤ P.length) : (byteR B P).take k = rowF k (gfV (byP B P)) := by
  rw [← byteR_row B hk]; unfold byteR; rw [List.map_take]
theorem own_cap {w : World} {base e size : Nat} {ao : Option Addr} {n m cap : Nat} {xs : List Value} (h : w.ownsRow base e size (.slice ao n cap) m xs) : n ≤ cap ∧ cap ≤ maxLen := by
  rcases h.2 with ⟨hv, _⟩ | ⟨g, c, cur, hv, _, _, h1, h2, _⟩
  · cases hv; exact ⟨Nat.le_refl _, by unfold maxLen; omega⟩
  · cases hv; exact ⟨h1, h2⟩
theorem Reads.take {w : World} {ao : Option Addr} {xs : List Value} (h : Reads w ao xs) (k : Nat) : Reads w ao (xs.take k) := by
  intro j u hu
  rw [List.getElem?_take] at hu
  split at hu
  · exact h j u hu
  · cases hu
set_option maxRecDepth 100000 in
set_option maxHeartbeats 4000000 in
theorem ref_MendOf (H : Nat → Bool) (B : Nat → GF) (n k : Nat) (ao : Option Addr) (cap : Nat) (w : World) (hn : n ≤ 20) (hk1 : 1 ≤ k) (hk2 : k ≤ n) (hR : Hid (Reads w ao (cellV H B n))) :
    Calls Try.prog 69 #[.slice ao n cap, .int .i64 k] w (MendPost H B (pd H n n) n k w) := by
  have hnw : IntKind.i64.wrap ((n : Int) - 1) = (n : Int) - 1 := IntWalk.i64_in _ (by omega)
  go_enter Try.func69, Try.ntmps69
  go_wp2_with fail
  go_loopw [6, 7, 8] (fun va vb vi wr => ∃ s : Nat, vi = .int .i64 ((n : Int) - 1 - s) ∧ s ≤ n ∧ ∃ L : List Nat, Hid (L = pd H n s) ∧ L.length ≤ n ∧ Hid (wr.ownsRow w.heap.size 5 1 va L.length (placeB L)) ∧ Hid (wr.ownsRow w.heap.size 5 1 vb L.length (byteR B L)) ∧ Hid (Apart va vb) ∧ Hid (Below w.heap.size w wr)) (fun _ _ vi _ => (intOf vi + 1).toNat)
  case atStart => exact ⟨0, by simp, by omega, [], Lib.hid (pd_zero H n).symm, by simp, Lib.hid (World.ownsRow_nil _ _ _ _), Lib.hid (World.ownsRow_nil _ _ _ _), (fun g h => by cases h), Below.refl _ _⟩
  case round =>
    obtain ⟨s, rfl, hsn, L, hL, hLn, hra, hrb, hap, hb⟩ := hrel
    by_cases hs : s < n
    · obtain ⟨i, hi⟩ : ∃ i : Nat, n - 1 - s = i := ⟨_, rfl⟩
      have hin : i < n := by omega
      have e0 : (n : Int) - 1 - s = (i : Int) := by omega
      have e1 : (i : Int) - 1 = (n : Int) - 1 - ((s + 1 : Nat) : Int) := by omega
      have ew : IntKind.i64.wrap ((i : Int) - 1) = (i : Int) - 1 := IntWalk.i64_in _ (by omega)
      have hii : (i : Int) < n := by omega
      have hi0 : (0 : Int) ≤ i := by omega
      have hsucc := pd_succ H hs
      rw [hi] at hsucc
      have HSU := Lib.hid hsucc
      clear hsucc hi
      rw [e0]
      obtain ⟨c1, c2⟩ := cellV_get H B hin
      obtain ⟨b1, o1, rfl, c1⟩ := hR.out _ _ c1
      obtain ⟨b2, o2, ha2, c2⟩ := hR.out _ _ c2
      injection ha2 with ha2
      injection ha2 with hb2 ho2
      subst hb2 ho2
      rw [← Nat.add_assoc] at c2
      have hlt : b1 < w.heap.size := World.block_lt_of_cell? w _ c2
      replace c1 := (hb.out.cell (World.block_lt_of_cell? w _ c1)).trans c1
      replace c2 := (hb.out.cell hlt).trans c2
      have hnea : Hid (some b1 ≠ Value.ownBlock u6) := fun he => by have := (hra.out.lt b1 he.symm).1; omega
      have hneb : Hid (some b1 ≠ Value.ownBlock u7) := fun he => by have := (hrb.out.lt b1 he.symm).1; omega
      clear hlt
      obtain ⟨p, hp⟩ : ∃ p, H i = p := ⟨_, rfl⟩
      rw [hp] at c1
      have HP := Lib.hid hp
      clear hp
      cases p
      · have hL2 : Hid (L = pd H n (s + 1)) := by
          show _ = _
          rw [hL.out, HSU.out, if_neg (by rw [HP.out]; decide)]
        have HE := Lib.hid e1
        clear e0 e1
        go_wp2_with fail
        go_roundw
        case rel => exact ⟨s + 1, by rw [HE.out], by omega, L, hL2, hLn, hra, hrb, hap, hb⟩
        case measure => simp [intOf] <;> omega
      · have wi := wrap_u8 i (by omega)
        have hL2 : Hid (L ++ [i] = pd H n (s + 1)) := by
          show _ = _
          rw [hL.out, HSU.out, if_pos (by rw [HP.out])]
        have hm1 : Hid (L.length + 1 ≤ maxLen) := Lib.hid (by unfold maxLen; omega)
        have hm2 : Hid ((L.length + 1) * 1 ≤ 140737488355328) := Lib.hid (by omega)
        have hm3 := hm1
        have hm4 := hm2
        have HE := Lib.hid e1
        clear e0 e1
        go_wp2_with fail
        go_region_held3 (fun w' => w'.cell? ⟨b1, o1 + i * 2 + 1, none⟩ = some (.int .u8 ((B i).val : Int))) (first | go_keep | (exact (hgr8.cell (by first | go_keep | (simp; done)) hneb.out)) | (exact (hgr7.cell (by first | go_keep | (simp; done)) hnea.out)))
          (first
            | (refine step_app_two ?_ (.tmp 24) (.tmp 27) 73 ?_ w.heap.size 5 _ 1 Try.underlying73 u8Info (u6) L.length (placeB L) ?_ wr hra.out 5 (u7) L.length (byteR B L) hrb.out hap.out w hb.out (Nat.le_refl _) ?_ ?_ (.int .u8 (i : Int)) ?_ ?_ rfl hm1.out hm2.out ?_; (focus rfl); (focus rfl); (focus rfl); (focus (repeat (first | (with_reducible exact Below.refl _ _) | (with_reducible apply below_drew1) | (with_reducible apply below_drewN) | (with_reducible refine Below.alloc ?_ (by simp; try omega) _) | fail))); rotate_left; (focus rfl); (focus (repeat (first | (with_reducible exact heap_new' _ _ _ (by simp; try omega)) | (with_reducible apply heap_drew) | (with_reducible apply heap_drewN) | (with_reducible apply heap_alloc_old) | fail))); intro g7 p7 w7 hr7 hr8 hap7 hb7 hgr7)
            | (refine step_app_two ?_ (.tmp 29) (.tmp 35) 73 ?_ w.heap.size 5 _ 1 Try.underlying73 u8Info (u7) L.length (byteR B L) ?_ w7 hr8 5 _ _ _ hr7 hap7.symm w hb7 (Nat.le_refl _) ?_ ?_ (.int .u8 ((B i).val : Int)) ?_ ?_ rfl hm3.out hm4.out ?_; (focus rfl); (focus rfl); (focus rfl); (focus (repeat (first | (with_reducible exact Below.refl _ _) | (with_reducible apply below_drew1) | (with_reducible apply below_drewN) | (with_reducible refine Below.alloc ?_ (by simp; try omega) _) | fail))); rotate_left; (focus rfl); (focus (repeat (first | (with_reducible exact heap_new' _ _ _ (by simp; try omega)) | (with_reducible apply heap_drew) | (with_reducible apply heap_drewN) | (with_reducible apply heap_alloc_old) | (with_reducible refine heap_grown_old hgr7 ?_ (ownBlock_ne hra.out (by omega))) | fail))); intro g8 p8 w8 hs8 hs7 hap8 hb8 hgr8)
            | fail)
        all_goals
          have HS8 : Hid (w8.ownsRow w.heap.size 5 1 (.slice (some ⟨g8, 0, none⟩) (L.length + 1) p8) (L ++ [i]).length (byteR B (L ++ [i]))) := by
            show World.ownsRow _ _ _ _ _ _ _
            rw [byteR_snoc, List.length_append]; exact hs8
          have HS7 : Hid (w8.ownsRow w.heap.size 5 1 (.slice (some ⟨g7, 0, none⟩) (L.length + 1) p7) (L ++ [i]).length (placeB (L ++ [i]))) := by
            show World.ownsRow _ _ _ _ _ _ _
            rw [placeB_snoc, List.length_append]; exact hs7
          have HA := Lib.hid hap8.symm
          have HB := Lib.hid hb8
          have HLn : (L ++ [i]).length ≤ n := by simp; have := pd_len H n (s + 1); rw [← hL2.out] at this; simp at this; omega
          clear hs8 hs7 hap8 hb8 hgr8 hgr7 hb7 hap7 hr7 hr8
          go_wp2_with fail
          go_roundw
          case rel => exact ⟨s + 1, by rw [HE.out], by omega, L ++ [i], hL2, HLn, HS7, HS8, HA, HB⟩
          case measure => simp [intOf] <;> omega
    · have hs2 : s = n := by omega
      subst hs2
      have e0 : (s : Int) - 1 - s = -1 := by omega
      rw [e0]
      obtain ⟨P, hP⟩ : ∃ P, pd H s s = P := ⟨_, rfl⟩
      have hPm : ∀ a ∈ P, a < 256 := fun a ha => by rw [← hP] at ha; have := (pd_mem (Nat.le_refl _) ha).1; omega
      have hL1 := hL.out
      rw [hP] at hL1
      have HPP := Lib.hid hP
      subst hL1
      clear hL hP e0
      by_cases hlk : L.length < k
      · have l1 : decide ((L.length : Int) < k) = true := by simp; omega
        have l2 : decide (L.length < k) = true := by simp; omega
        obtain ⟨a7, c7, rfl, _, _, _⟩ := own_reads hra.out
        go_wp2_with fail
        go_ret2
        exact ⟨hb.out, .inl ⟨by rw [HPP.out]; exact hlk, rfl⟩⟩
      · have hkP : k ≤ L.length := by omega
        have l1 : decide ((L.length : Int) < k) = false := by simp; omega
        have l2 : decide (L.length < k) = false := by simp; omega
        obtain ⟨m, hm⟩ : ∃ m, L.length = m := ⟨_, rfl⟩
        have hne1 : placeB L ≠ [] := fun h => by have := congrArg List.length h; simp [placeB] at this; subst this; simp at hkP; omega
        have hne2 : byteR B L ≠ [] := fun h => by have := congrArg List.length h; simp [byteR] at this; subst this; simp at hkP; omega
        obtain ⟨g6, c6, hv6⟩ := own_form hra.out hne1
        obtain ⟨g7, c7, hv7⟩ := own_form hrb.out hne2
        subst hv6
        subst hv7
        obtain ⟨q1, q2⟩ := own_cap hra.out
        obtain ⟨q3, q4⟩ := own_cap hrb.out
        obtain ⟨a7, c7', hv7, ra7, _, _⟩ := own_reads hra.out
        cases hv7
        obtain ⟨a8, c8', hv8, ra8, _, _⟩ := own_reads hrb.out
        cases hv8
        have R7a := Lib.hid ra7
        have R8a := Lib.hid ra8
        have ra7' := ra7.take k
        have ra8' := ra8.take k
        rw [placeB_row hkP hPm] at ra7'
        rw [byteR_row' B hkP] at ra8'
        have R7 := Lib.hid ra7'
        have R8 := Lib.hid ra8'
        have hk256 : k ≤ 256 := by omega
        have hnod : Hid (∀ i j, i < k → j < k → i ≠ j → atP L i ≠ atP L j) := fun i j h1 h2 h3 => atP_ne (by rw [← HPP.out, pd_all]; exact nodup_rev (pl_nodup H s)) hPm i j (by omega) (by omega) h3
        have kc6 : (k : Int) ≤ c6 := by omega
        have kc7 : (k : Int) ≤ c7 := by omega
        have HC := Lib.hid (fun W (hx : Reads W (some ⟨g6, 0, none⟩) (rowF k (gfV (atP L)))) (hy : Reads W (some ⟨g7, 0, none⟩) (rowF k (gfV (byP B L)))) => ref_RowOf (atP L) (byP B L) k s (some ⟨g6, 0, none⟩) (some ⟨g7, 0, none⟩) c6 c7 W hk1 hk256 (by omega) hnod hx hy)
        have HPM := Lib.hid hPm
        have HKP := Lib.hid hkP
        rw [hm] at q1 q3 l1 l2 ⊢
        clear ra7 ra8 ra7' ra8' hra hrb hap hlk hne1 hne2 hkP
        go_wp2_with fail
        go_still_tail 8, (by kernel_rfl)
        change wpList _ _ _ _ _ (World.drew _)
        go_wp2_with fail
        refine (HC.out wr.drew R7.out R8.out).mono ?_
        rintro e w1 ⟨v, rfl, hO, hb1'⟩
        have hb1 : Below wr.heap.size wr w1 := (below_dr wr.heap.size wr 1).trans hb1'
        clear hb1'
        obtain ⟨ar, cr, rfl, _, _, _⟩ := own_reads hO
        have HO : Hid (w1.ownsRow w.heap.size 5 1 (.slice ar s cr) s (rowF s (gfV fun j => rowP B L k (gf j)))) := own_mono hO hb.out.size
        have HRO : Hid (Reads w1 ar (rowF s (gfV fun j => rowP B L k (gf j)))) := by
          obtain ⟨a, c, hv, h, _⟩ := own_reads hO
          cases hv; exact h
        have R7w := Lib.hid (R7a.out.below hb1)
        have R8w := Lib.hid (R8a.out.below hb1)
        have HB1 := Lib.hid (hb.out.trans (Below.mono hb1 hb.out.size))
        clear hO hb1 R7 R8 R7a R8a HC hb
        go_wp2_with fail
        go_loopw [10, 11, 52] (fun _ _ vi wx => ∃ i : Nat, vi = .int .i64 i ∧ i ≤ m ∧ Hid (∀ j, j < i → rowP B L k (gf (L.getD j 0)) = B (L.getD j 0)) ∧ ∃ q, wx = w1.drewN q) (fun _ _ vi _ => m - (intOf vi).toNat)
        case atStart => exact ⟨0, rfl, by omega, Lib.hid (by intro a ha; omega), 0, rfl⟩
        case round =>
          obtain ⟨i, rfl, him, hall, q, rfl⟩ := hrel
          by_cases hi : i < m
          · obtain ⟨x, hx⟩ : ∃ x, L.getD i 0 = x := ⟨_, rfl⟩
            have hxm : x ∈ L := by rw [← hx]; exact getD_mem (by omega)
            have hxs : x < s ∧ H x = true := by rw [← HPP.out] at hxm; exact pd_mem (Nat.le_refl _) hxm
            obtain ⟨hxs, hxH⟩ := hxs
            have hLi : L[i]? = some x := by rw [← hx, List.getD_eq_getElem?_getD, List.getElem?_eq_getElem (by omega)]; rfl
            obtain ⟨b1, o1, hb1, c1⟩ := R7w.out i (.int .u8 (x : Int)) (by unfold placeB; rw [List.getElem?_map, hLi]; rfl)
            obtain ⟨b2, o2, hb2, c2⟩ := R8w.out i (gfV B x) (by unfold byteR; rw [List.getElem?_map, hLi]; rfl)
            cases hb1
            cases hb2
            rw [Nat.zero_add] at c1 c2
            obtain ⟨b3, o3, rfl, c3⟩ := HRO.out x _ (rowF_get _ hxs)
            unfold gfV at c2 c3
            dsimp only at c3
            have hii : (i : Int) < m := by omega
            have hi0 : (0 : Int) ≤ i := by omega
            have hxx : (x : Int) < s := by omega
            have hx0 : (0 : Int) ≤ x := by omega
            have HX := Lib.hid hx
            have HXH := Lib.hid hxH
            have HXS := Lib.hid hxs
            by_cases hv : rowP B L k (gf x) = B x
            · have hall2 : Hid (∀ j, j < i + 1 → rowP B L k (gf (L.getD j 0)) = B (L.getD j 0)) := by
                intro j hj
                rcases Nat.lt_or_ge j i with h | h
                · exact hall.out j h
                · obtain rfl : j = i := by omega
                  rw [HX.out]; exact hv
              rw [hv] at c3
              have d1 : (((B x).val : Int) != ((B x).val : Int)) = false := by simp
              clear hv hx hxm hxH
              go_wp2_with fail
              go_quiet (fail)
              go_wp2_with fail
              go_roundw
              case rel => exact ⟨i + 1, by go_num, by omega, hall2, _, rfl⟩
              case measure => simp [intOf]; omega
            · obtain ⟨y, hy⟩ : ∃ y, (rowP B L k (gf x)).val = y := ⟨_, rfl⟩
              rw [hy] at c3
              have d1 : ((y : Int) != ((B x).val : Int)) = true := by
                rw [← hy]
                simp only [bne_iff_ne, ne_eq]
                intro h
                exact hv (GF.ext (by omega))
              have hnf : Hid (¬ Fit H B L k s) := fun h => hv (h x hxs hxH)
              clear hv hy hx hxm hxH
              go_wp2_with fail
              go_quiet (fail)
              go_wp2_with fail
              go_ret2
              exact ⟨below_drewN (below_drewN HB1.out _) _, .inr (.inl ⟨by rw [HPP.out]; exact HKP.out, by rw [HPP.out]; exact hnf.out, rfl⟩)⟩
          · have hfin : Hid (Fit H B L k s) := by
              intro a ha hh
              have ha2 : a ∈ L := by rw [← HPP.out, pd_all, List.mem_reverse, mem_pl]; exact ⟨ha, hh⟩
              obtain ⟨j, hj, he⟩ := List.mem_iff_getElem.1 ha2
              have h1 := hall.out j (by omega)
              rw [List.getD_eq_getElem?_getD, List.getElem?_eq_getElem hj] at h1
              simp only [Option.getD_some] at h1
              rw [he] at h1
              exact h1
            go_wp2_with fail
            go_ret2
            exact ⟨below_drewN HB1.out _, .inr (.inr ⟨by rw [HPP.out]; exact HKP.out, by rw [HPP.out]; exact hfin.out, _, rfl, by rw [HPP.out]; exact own_below HO.out (below_dr _ _ _)⟩)⟩
end Go.Proofs.Ytioecklnijhjgaa
namespace Go.Proofs.Ytioecklnijhjgaa
open Go.RowKit

/-- Where the first of some values stands that a test lets by; -1 if there is none. -/
def idxI (p : Int → Bool) (zs : List Int) : Int := match zs.findIdx? p with | some i => (i : Int) | none => -1
theorem idxI_none {p : Int → Bool} {zs : List Int} (h : ∀ x ∈ zs, p x = false) : idxI p zs = -1 := by
  unfold idxI
  rw [List.findIdx?_eq_none_iff.2 (by simpa using h)]
theorem idxI_some {p : Int → Bool} {zs : List Int} {k : Nat} {x : Int} (hk : zs[k]? = some x) (hx : p x = true) (h : ∀ j y, j < k → zs[j]? = some y → p y = false) : idxI p zs = k := by
  have : zs.findIdx? p = some k := by
    rw [List.findIdx?_eq_some_iff_getElem]
    obtain ⟨hl, he⟩ := List.getElem?_eq_some_iff.1 hk
    refine ⟨hl, by rw [he]; exact hx, fun j hj => ?_⟩
    have := h j _ hj (List.getElem?_eq_getElem (by omega))
    simp [this]
  unfold idxI
  rw [this]

set_option maxRecDepth 20000 in
set_option maxHeartbeats 400000 in
theorem indexFunc_int (fn : FuncId) (hfn : ∀ (x : Value) (W : World), (callFunc fn #[x]).run Try.prog W = .ok (.enter fn #[x]) W) (p : Int → Bool) (zs : List Int) (ao : Option Addr) (cap : Nat) (w : World) (hl : zs.length ≤ 9223372036854775807) (hR : Hid (Reads w ao (zs.map (Value.int .i64))))
    (hf : Hid (∀ x ∈ zs, ∀ n, Calls Try.prog fn #[.int .i64 x] (w.drewN n) fun e w' => e = .returned (.bool (p x)) ∧ ∃ m, w' = (w.drewN n).drewN m)) :
    Calls Try.prog 56 #[.slice ao zs.length cap, .func (.func fn) #[] #[]] w fun e w' => e = .returned (.int .i64 (idxI p zs)) ∧ ∃ n, w' = w.drewN n := by
  obtain ⟨len, hlen⟩ : ∃ n, zs.length = n := ⟨_, rfl⟩
  rw [hlen] at hl ⊢
  have HL := Lib.hid hlen
  clear hlen
  go_enter Try.func56, Try.ntmps56
  go_wp2_with fail
  go_loopw [8] (fun vi wr => ∃ k : Nat, vi = .int .i64 k ∧ k ≤ len ∧ Hid (∀ j y, j < k → zs[j]? = some y → p y = false) ∧ ∃ n, wr = w.drewN n) (fun vi _ => len - (intOf vi).toNat)
  case atStart => exact ⟨0, rfl, by omega, by intro j y hj; omega, 0, rfl⟩
  case round =>
    obtain ⟨k, rfl, hk, hno, n, rfl⟩ := hrel
    by_cases hkl : k < len
    · obtain ⟨x, hx⟩ : ∃ x, zs[k]? = some x := ⟨zs[k]'(by rw [HL.out]; exact hkl), List.getElem?_eq_getElem _⟩
      obtain ⟨b, o, rfl, hc⟩ := hR.out k (.int .i64 x) (by simp [hx])
      have HX := Lib.hid hx
      clear hx
      have hcall := Lib.hid (hf.out x (List.mem_of_getElem? HX.out))
      cases hp : p x with
      | true =>
        have HP := Lib.hid hp
        clear hp
        go_wp2_with fail
        refine (hcall.out n).mono ?_
        rw [HP.out]
        rintro e w' ⟨rfl, m, rfl⟩
        go_wp2
        go_ret
        exact ⟨ret_int (idxI_some HX.out HP.out hno.out).symm, _, rfl⟩
      | false =>
        have HP := Lib.hid hp
        clear hp
        go_wp2_with fail
        refine (hcall.out n).mono ?_
        rw [HP.out]
        rintro e w' ⟨rfl, m, rfl⟩
        go_wp2
        go_roundw
        case rel => exact ⟨k + 1, by go_num, by omega, by
          intro j y hj hy
          by_cases he : j = k
          · subst he; rw [HX.out] at hy; cases hy; exact HP.out
          · exact hno.out j y (by omega) hy, _, rfl⟩
        case measure => simp [intOf]; omega
    · obtain rfl : k = len := by omega
      go_wp2
      go_ret
      refine ⟨ret_int (idxI_none fun x hx => ?_).symm, _, rfl⟩
      obtain ⟨j, hj⟩ := List.getElem?_of_mem hx
      have := (List.getElem?_eq_some_iff.1 hj).1
      exact hno.out j x (by have := HL.out; omega) hj
theorem idxI_nonneg (p : Int → Bool) (zs : List Int) : decide (0 ≤ idxI p zs) = zs.any p := by
  unfold idxI
  cases h : zs.findIdx? p with
  | none =>
    have h2 := List.findIdx?_eq_none_iff.1 h
    have : zs.any p = false := by simpa using h2
    rw [this]; rfl
  | some i =>
    have h2 := List.findIdx?_eq_some_iff_getElem.1 h
    obtain ⟨hl, hp, _⟩ := h2
    have : zs.any p = true := List.any_eq_true.2 ⟨_, List.getElem_mem hl, hp⟩
    rw [this]; simp

set_option maxHeartbeats 400000 in
theorem containsFunc_int (fn : FuncId) (hfn : ∀ (x : Value) (W : World), (callFunc fn #[x]).run Try.prog W = .ok (.enter fn #[x]) W) (p : Int → Bool) (zs : List Int) (ao : Option Addr) (cap : Nat) (w : World) (hl : zs.length ≤ 9223372036854775807) (hR : Hid (Reads w ao (zs.map (Value.int .i64))))
    (hf : Hid (∀ x ∈ zs, ∀ n, Calls Try.prog fn #[.int .i64 x] (w.drewN n) fun e w' => e = .returned (.bool (p x)) ∧ ∃ m, w' = (w.drewN n).drewN m)) :
    Calls Try.prog 39 #[.slice ao zs.length cap, .func (.func fn) #[] #[]] w fun e w' => e = .returned (.bool (zs.any p)) ∧ ∃ n, w' = w.drewN n := by
  go_enter Try.func39, Try.ntmps39
  go_wp2_with (go_at_call 56; refine (indexFunc_int fn hfn p zs ao cap w hl hR hf).mono ?_; rintro e w' ⟨rfl, n, rfl⟩)
  go_ret
  exact ⟨ret_bool (idxI_nonneg p zs), _, rfl⟩
end Go.Proofs.Ytioecklnijhjgaa
