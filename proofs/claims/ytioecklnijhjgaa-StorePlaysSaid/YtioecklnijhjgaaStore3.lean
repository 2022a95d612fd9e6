/- package store: newest. -/
import Derived.Test.YtioecklnijhjgaaPlM22
import Derived.Test.YtioecklnijhjgaaPlM26
import Derived.Test.YtioecklnijhjgaaPlM25
import Derived.Test.YtioecklnijhjgaaPiece7
set_option linter.unusedVariables false
set_option linter.unusedSimpArgs false
namespace Go.Proofs.Ytioecklnijhjgaa
open Go.RowKit

theorem strInfoS : ElemRow Try.prog 9 (.string ByteArray.empty) 1 16 := elemRow_of (by kernel_rfl) rfl (by omega)
def stV (a : Nat) : List Value := [.int .i64 (a : Int), .int .i64 0]
def stCells (l : List Nat) : List Value := l.flatMap stV
theorem stCells_snoc (l : List Nat) (a : Nat) : stCells (l ++ [a]) = stCells l ++ stV a := by simp [stCells]
theorem stCells_get {l : List Nat} {j a : Nat} (h : l[j]? = some a) : (stCells l)[j * 2]? = some (.int .i64 (a : Int)) ∧ (stCells l)[j * 2 + 1]? = some (.int .i64 0) := by
  induction l generalizing j with
  | nil => simp at h
  | cons x t ih =>
    have e : stCells (x :: t) = stV x ++ stCells t := by simp [stCells]
    have h4 : (stV x).length = 2 := rfl
    cases j with
    | zero => simp at h; subst h; exact ⟨rfl, rfl⟩
    | succ j =>
      obtain ⟨h1, h2⟩ := ih (by simpa using h)
      rw [e]
      exact ⟨by rw [List.getElem?_append_right (by rw [h4]; omega), h4, show (j + 1) * 2 - 2 = j * 2 by omega, h1], by rw [List.getElem?_append_right (by rw [h4]; omega), h4, show (j + 1) * 2 + 1 - 2 = j * 2 + 1 by omega, h2]⟩
theorem st_cells {w : World} {ao : Option Addr} {l : List Nat} (h : Reads w ao (stCells l)) {k a : Nat} (hk : l[k]? = some a) :
    ∃ b o, ao = some ⟨b, o, none⟩ ∧ w.cell? ⟨b, o + k * 2, none⟩ = some (.int .i64 (a : Int)) ∧ w.cell? ⟨b, o + k * 2 + 1, none⟩ = some (.int .i64 0) := by
  obtain ⟨g1, g2⟩ := stCells_get hk
  obtain ⟨b, o, rfl, c1⟩ := h _ _ g1
  obtain ⟨b2, o2, e2, c2⟩ := h _ _ g2
  cases e2
  exact ⟨b, o, rfl, c1, by rw [Nat.add_assoc]; exact c2⟩
def NewPost (r : Best) (w : World) (e : Ending) (w' : World) : Prop :=
  e = .returned (.tuple #[.agg #[.int .i64 (r.1 : Int), .int .i64 0], .string r.2.1, .bool r.2.2]) ∧ Below w.heap.size w w'
theorem newB_lt (a b : Nat) : newB (a : Int) 0 (b : Int) 0 = decide (b < a) := by
  unfold newB
  simp
/-- The stamps that are known behind j nodes. -/
def stTo (st : St) (key : Nat) (U : List Nat) (j : Nat) : List Nat := (U.take j).flatMap fun i => (st.kp i key).map (·.1)
theorem stTo_succ (st : St) (key : Nat) {U : List Nat} {j i : Nat} (h : U[j]? = some i) : stTo st key U (j + 1) = stTo st key U j ++ (st.kp i key).map (·.1) := by
  unfold stTo
  rw [take_snocN h, List.flatMap_append]; simp
theorem stTo_lenB {st : St} {B : Nat} (key : Nat) (hB : ∀ i, (st.kp i key).length ≤ B) (U : List Nat) (j : Nat) : (stTo st key U j).length ≤ j * B := by
  induction j with
  | zero => simp [stTo]
  | succ j ih =>
    rw [Nat.succ_mul]
    cases h : U[j]? with
    | none =>
      have e : stTo st key U (j + 1) = stTo st key U j := by
        unfold stTo
        rw [List.getElem?_eq_none_iff] at h
        rw [List.take_of_length_le h, List.take_of_length_le (by omega)]
      rw [e]
      omega
    | some i =>
      rw [stTo_succ st key h, List.length_append, List.length_map]
      have := hB i
      omega
theorem stTo_len {st : St} (hok : Okst st) (key : Nat) (U : List Nat) (j : Nat) : (stTo st key U j).length ≤ j * 1000000 := stTo_lenB key (fun i => hok.len i key) U j
def strAt (st : St) (key a : Nat) (U : List Nat) (j : Nat) (x : Nat) : Value := .string (if x ∈ U.take j then pick (st.kp x key) a else ByteArray.empty)
theorem strAt_succ (st : St) (key a : Nat) {U : List Nat} {j i : Nat} (h : U[j]? = some i) (x : Nat) : (if x = i then Value.string (pick (st.kp i key) a) else strAt st key a U j x) = strAt st key a U (j + 1) x := by
  unfold strAt
  rw [take_snocN h]
  by_cases hx : x = i
  · subst hx; rw [if_pos rfl, if_pos (by simp)]
  · rw [if_neg hx]
    by_cases h2 : x ∈ U.take j
    · rw [if_pos h2, if_pos (by simp [h2])]
    · rw [if_neg h2, if_neg (by simp [h2, hx])]
theorem strAt_done (n : Nat) (st : St) (key a : Nat) : rowF n (strAt st key a (ups n st) (ups n st).length) = (rowAt n st key a).map Value.string := by
  unfold rowAt
  rw [listOf_row]
  apply rowF_congr
  intro j hj
  unfold strAt
  rw [List.take_length]
  cases hd : st.dn j with
  | true => rw [if_neg (by rw [mem_ups, hd]; simp), if_pos rfl]
  | false => rw [if_pos (by rw [mem_ups]; exact ⟨hj, hd⟩), if_neg (by simp)]
theorem newS_old {n k : Nat} {st : St} {key : Nat} {b a : Nat} {t : ByteArray} (h : ¬ b < a) : newS n k st key (b, t, true) a = (b, t, true) := if_pos ⟨rfl, by show a ≤ b; omega⟩
theorem newS_yes {n k : Nat} {st : St} {key : Nat} {acc : Best} {a : Nat} (h : acc.2.2 = false ∨ acc.1 < a) {S : ByteArray} (hj : JoinIs (rowAt n st key a) n (k : Int) S 0) : newS n k st key acc a = (a, S, true) := by
  unfold newS
  obtain ⟨h1, h2⟩ := joinF_eq hj
  rw [if_neg (by rintro ⟨h3, h4⟩; rcases h with h | h; rw [h] at h3; cases h3; omega), if_pos h2, h1]
theorem newS_no {n k : Nat} {st : St} {key : Nat} {acc : Best} {a : Nat} {S : ByteArray} {E : Nat} (hE : E ≠ 0) (hj : JoinIs (rowAt n st key a) n (k : Int) S E) : newS n k st key acc a = acc := by
  unfold newS
  obtain ⟨h1, h2⟩ := joinF_eq hj
  by_cases g : acc.2.2 = true ∧ a ≤ acc.1
  · rw [if_pos g]
  · rw [if_neg g, if_neg (by rw [h2]; exact hE)]
set_option maxRecDepth 100000 in
set_option maxHeartbeats 8000000 in
theorem store_newest {w : World} {base : Nat} {Av : Nat → Prop} {n k wr r b nb : Nat} {V : Nat → Nat → Value} {st : St} (key : Nat) (hkey : key < 3) (hk1 : 1 ≤ k) (hkn : k ≤ n) (hn : n ≤ 10) (h : Shf w base Av n k wr r b nb V st) :
    Calls Try.prog 41 #[.pointer (some ⟨b, 0, none⟩), .int .i64 (key : Int)] w (NewPost (newest n k st key) w) := by
  obtain ⟨W1, hW1⟩ : ∃ W1, w.alloc (.cells #[.int .i64 0, .int .i64 0] 38) = W1 := ⟨_, rfl⟩
  have hbel : Below w.heap.size w W1 := by rw [← hW1]; exact below_alloc _ _
  have hres : W1.heap[w.heap.size]? = some (.cells #[.int .i64 0, .int .i64 0] 38 (0, 0)) := by rw [← hW1]; exact heap_alloc_new w _
  have hsz : W1.heap.size = w.heap.size + 1 := by rw [← hW1]; simp
  have hS1 := h.below hbel
  have CU : Hid (∀ W, Below W1.heap.size W1 W → Calls Try.prog 38 #[.pointer (some ⟨b, 0, none⟩)] W (UpPost (ups n st) W)) := Lib.hid fun W hb => store_up hn (hS1.below hb)
  unfold UpPost at CU
  have HS : Hid (∀ W, Below W1.heap.size W1 W → Shf W base Av n k wr r b nb V st) := Lib.hid fun W hb => hS1.below hb
  have HOK := Lib.hid h.ok
  have hul := ups_len n st
  have HUM : Hid (∀ i, i ∈ ups n st → i < n) := Lib.hid fun i hi => (mem_ups.1 hi).1
  have HNW : Hid (newest n k st key = (stamps n st key).foldl (newS n k st key) (0, ByteArray.empty, false)) := Lib.hid rfl
  have HST : Hid (stamps n st key = stTo st key (ups n st) (ups n st).length) := Lib.hid (by unfold stamps stTo; rw [List.take_length])
  have HDONE := Lib.hid (strAt_done n st key)
  obtain ⟨NW, hNW⟩ : ∃ NW, newest n k st key = NW := ⟨_, rfl⟩
  rw [hNW] at HNW ⊢
  obtain ⟨U, hU⟩ : ∃ U, ups n st = U := ⟨_, rfl⟩
  rw [hU] at CU hul HUM HST HDONE
  obtain ⟨u, hu⟩ : ∃ u, U.length = u := ⟨_, rfl⟩
  rw [hu] at CU hul HST HDONE
  have HUL := Lib.hid hu
  have HB0 := Lib.hid hbel
  have HRES := Lib.hid hres
  have HSZ := Lib.hid hsz
  obtain ⟨gb, hgb⟩ : ∃ gb, W1.heap.size = gb := ⟨_, rfl⟩
  have HGB := Lib.hid hgb
  clear h hbel hres hsz hS1 hU hu hNW hgb
  go_enter Try.func41, Try.ntmps41
  go_wp2_with fail
  (with_reducible refine (CU.out _ (Below.refl _ _)).mono ?_)
  rintro e w1 ⟨ao1, cap1, rfl, hown1, hb1⟩
  have HB1 : Hid (Below gb W1 w1) := Lib.hid (by rw [← HGB.out]; exact hb1)
  obtain ⟨ao1', cap1', hv, hR1, _, _⟩ := own_reads hown1
  cases hv
  have HR1 := Lib.hid hR1
  obtain ⟨gs, hgs⟩ : ∃ gs, w1.heap.size = gs := ⟨_, rfl⟩
  have HGS := Lib.hid hgs
  have HS1 : Hid (∀ W, Below gs w1 W → Shf W base Av n k wr r b nb V st) := Lib.hid fun W hb => HS.out W (hb1.trans (hb.mono (by rw [← hgs]; exact hb1.size)))
  have CU1 := Lib.hid (fun W (hb : Below gs w1 W) => CU.out W (hb1.trans (hb.mono (by rw [← hgs]; exact hb1.size))))
  clear hown1 hb1 hR1 hgs CU HS hW1
  go_wp2_with fail
  go_loopw [7, 25] (fun vo vj wr => ∃ j : Nat, vj = .int .i64 j ∧ j ≤ u ∧ Hid (wr.ownsRow gs 38 2 vo (stTo st key U j).length (stCells (stTo st key U j))) ∧ Hid (Below gs w1 wr)) (fun _ vj _ => u - (intOf vj).toNat)
  case atStart => exact ⟨0, rfl, by omega, Lib.hid (World.ownsRow_nil _ _ _ _), Lib.hid (Below.refl _ _)⟩
  case round =>
    obtain ⟨j, rfl, hj, HO, HB⟩ := hrel
    obtain ⟨wo, rfl⟩ : ∃ wo, wo = wr := ⟨_, rfl⟩
    have HBg : Hid (Below w1.heap.size w1 wo) := Lib.hid (by rw [HGS.out]; exact HB.out)
    by_cases hju : j < u
    · obtain ⟨i, hi⟩ : ∃ i, U[j]? = some i := ⟨U[j]'(by rw [HUL.out]; exact hju), List.getElem?_eq_getElem _⟩
      have hin := HUM.out i (List.mem_of_getElem? hi)
      obtain ⟨bu, ou, hra, xu⟩ := (HR1.out.below HBg.out) j _ (placeR_at hi)
      cases hra
      have HI := Lib.hid hi
      have hS := HS1.out _ HB.out
      have x4 := hS.cells.2.2.2.2.1
      obtain ⟨ak, ck, hvk, hRk, hnk⟩ := hS.reads hin hkey
      have xk := hS.kpc hin hkey
      rw [hvk] at xk
      obtain ⟨lk, hlk⟩ : ∃ lk, (st.kp i key).length = lk := ⟨_, rfl⟩
      have hlk6 := HOK.out.len i key
      rw [hlk] at xk hlk6
      have HLK := Lib.hid hlk
      have HVK : Hid (V i key = .slice ak lk ck) := Lib.hid (by rw [← hlk]; exact hvk)
      have hsl := stTo_len HOK.out key U j
      have i0 : (0 : Int) ≤ (i : Int) := by omega
      have i1 : (i : Int) < (n : Int) := by omega
      have y0 : (0 : Int) ≤ (key : Int) := by omega
      have y1 : (key : Int) < 3 := by omega
      have hj10 : j ≤ 10 := by omega
      obtain ⟨ls, hls⟩ : ∃ ls, (stTo st key U j).length = ls := ⟨_, rfl⟩
      rw [hls] at HO hsl
      have hls7 : ls ≤ 10000000 := by omega
      have HLS := Lib.hid hls
      clear hi hvk hRk hlk hnk hsl hls hS
      go_wp2_with fail
      go_loopw [7, 40] (fun vo vq wr => ∃ q : Nat, vq = .int .i64 q ∧ q ≤ lk ∧ Hid (wr.ownsRow gs 38 2 vo (ls + q) (stCells (stTo st key U j ++ ((st.kp i key).take q).map (·.1)))) ∧ Hid (Below gs w1 wr)) (fun _ vq _ => lk - (intOf vq).toNat)
      case atStart => exact ⟨0, rfl, by omega, Lib.hid (by simpa using HO.out), HB⟩
      case round =>
        clear HO HB HBg
        obtain ⟨q, rfl, hq, HO, HB⟩ := hrel
        obtain ⟨wq, rfl⟩ : ∃ wq, wq = wr := ⟨_, rfl⟩
        have HBg : Hid (Below w1.heap.size w1 wq) := Lib.hid (by rw [HGS.out]; exact HB.out)
        by_cases hql : q < lk
        · obtain ⟨ak', ck', hvk', hRk, _⟩ := (HS1.out _ HB.out).reads hin hkey
          rw [HVK.out] at hvk'
          cases hvk'
          obtain ⟨bk, ok, hrk, z0, z1, z2⟩ := kp_cells hRk (k := q) (by rw [HLK.out]; exact hql)
          cases hrk
          obtain ⟨x, hx⟩ : ∃ x, (st.kp i key)[q]'(by rw [HLK.out]; exact hql) = x := ⟨_, rfl⟩
          have HTK : Hid ((st.kp i key).take (q + 1) = (st.kp i key).take q ++ [x]) := Lib.hid (by rw [List.take_succ_eq_append_getElem (by rw [HLK.out]; exact hql), hx])
          rw [hx] at z0 z2
          obtain ⟨a, s⟩ := x
          obtain ⟨W2, hW2⟩ : ∃ W2, wq.alloc (.cells #[.int .i64 (a : Int), .int .i64 0, .string s] 50) = W2 := ⟨_, rfl⟩
          have hb2 : Below wq.heap.size wq W2 := by rw [← hW2]; exact below_alloc _ _
          have n0 : W2.cell? ⟨wq.heap.size, 0, none⟩ = some (.int .i64 (a : Int)) := by rw [← hW2]; simp [World.cell?_alloc_new]
          have n1 : W2.cell? ⟨wq.heap.size, 1, none⟩ = some (.int .i64 0) := by rw [← hW2]; simp [World.cell?_alloc_new]
          have HOx := Lib.hid (own_below HO.out hb2)
          have HBx : Hid (Below gs w1 W2) := Lib.hid (HB.out.trans (hb2.mono (by rw [← HGS.out]; exact HBg.out.size)))
          clear hx hb2 hRk
          go_wp2_with (first
            | (at_builtin; go_loud (refine app_one rfl (.tmp 44) (.tmp 47) 107 rfl gs 38 _ 2 16 Try.underlying107 stampInfo _ _ _ (by rfl) HOx.out [.int .i64 (a : Int), .int .i64 0] (by rfl) rfl (by intro u hu; simp at hu; rcases hu with rfl | rfl <;> rfl) (by unfold maxLen; omega) (by omega) (by rw [← HGS.out]; exact HBx.out.size) ?_); intro v5 w5 hown5 hgr5 hb5; have HO5 : Hid (w5.ownsRow gs 38 2 v5 (ls + (q + 1)) (stCells (stTo st key U j ++ ((st.kp i key).take (q + 1)).map (·.1)))) := Lib.hid (by rw [HTK.out, List.map_append, ← List.append_assoc]; rw [List.map_cons, List.map_nil, stCells_snoc]; exact hown5); have HB5 := Lib.hid (HBx.out.trans hb5); clear hown5 hgr5 hb5)
            | fail)
          go_roundw
          case rel => exact ⟨q + 1, by go_num, by omega, HO5, HB5⟩
          case measure => simp [intOf]; omega
        · obtain rfl : lk = q := by omega
          have HO9 : Hid (wq.ownsRow gs 38 2 u7 (stTo st key U (j + 1)).length (stCells (stTo st key U (j + 1)))) := Lib.hid (by
            have e := HO.out
            rw [List.take_of_length_le (by rw [HLK.out]; exact Nat.le_refl _), ← stTo_succ st key HI.out] at e
            have e2 : (stTo st key U (j + 1)).length = ls + lk := by rw [stTo_succ st key HI.out, List.length_append, List.length_map, HLK.out, HLS.out]
            rw [e2]; exact e)
          go_wp2_with fail
          go_roundw
          case rel => exact ⟨j + 1, by go_num, by omega, HO9, HB⟩
          case measure => simp [intOf]; omega
    · obtain rfl : u = j := by omega
      obtain ⟨S, hS⟩ : ∃ S, stamps n st key = S := ⟨_, rfl⟩
      have HSS : Hid (stTo st key U u = S) := Lib.hid (by rw [← HST.out, hS])
      rw [hS] at HNW
      rw [HSS.out] at HO
      obtain ⟨ls, hls⟩ : ∃ ls, S.length = ls := ⟨_, rfl⟩
      rw [hls] at HO
      have hls7 : ls ≤ 10000000 := by
        have := stTo_len HOK.out key U u
        rw [HSS.out, hls] at this
        omega
      have HLS := Lib.hid hls
      obtain ⟨aS, cS, rfl, hRS, _, _⟩ := own_reads HO.out
      have HRS := Lib.hid hRS
      obtain ⟨W3, hW3⟩ : ∃ W3, wo.alloc (.cells #[.int .i64 0, .int .i64 0] 38) = W3 := ⟨_, rfl⟩
      obtain ⟨B2, hB2⟩ : ∃ B2, wo.heap.size = B2 := ⟨_, rfl⟩
      have hb3 : Below B2 wo W3 := by rw [← hW3, ← hB2]; exact below_alloc _ _
      have h3 : W3.heap[B2]? = some (.cells #[.int .i64 0, .int .i64 0] 38 (0, 0)) := by rw [← hW3, ← hB2]; exact heap_alloc_new wo _
      have HB3 := Lib.hid hb3
      have HH3 := Lib.hid h3
      have HBB := Lib.hid hB2
      have HGB2 : Hid (gs ≤ B2) := Lib.hid (by rw [← HGS.out, ← hB2]; exact HBg.out.size)
      clear hS hls hRS hb3 h3 HST HO
      go_wp2_with fail
      clear hB2 hW3
      go_loopw [13, 14, 53] (fun vt vf vj wr => ∃ (j b1 : Nat) (t1 : ByteArray) (f1 : Bool), vj = .int .i64 j ∧ j ≤ ls ∧ vt = .string t1 ∧ vf = .bool f1 ∧ Hid ((S.take j).foldl (newS n k st key) (0, ByteArray.empty, false) = (b1, t1, f1)) ∧ Hid (wr.heap[B2]? = some (.cells #[.int .i64 (b1 : Int), .int .i64 0] 38 (0, 0))) ∧ Hid (Below B2 wo wr)) (fun _ _ vj _ => ls - (intOf vj).toNat)
      case atStart => exact ⟨0, 0, ByteArray.empty, false, rfl, by omega, rfl, rfl, Lib.hid rfl, HH3, HB3⟩
      case round =>
        clear HB3 HH3
        obtain ⟨j, b1, t1, f1, rfl, hj2, rfl, rfl, HF, HH, HB4⟩ := hrel
        obtain ⟨wl, rfl⟩ : ∃ wl, wl = wr := ⟨_, rfl⟩
        have HB4' : Hid (Below gs w1 wl) := Lib.hid (HB.out.trans (HB4.out.mono HGB2.out))
        have HBs : Hid (B2 ≤ wl.heap.size) := Lib.hid (by rw [← HBB.out]; exact (HBB.out ▸ HB4.out).size)
        by_cases hjl : j < ls
        · obtain ⟨a, ha⟩ : ∃ a, S[j]? = some a := ⟨S[j]'(by rw [HLS.out]; exact hjl), List.getElem?_eq_getElem _⟩
          obtain ⟨bs, os, hra, x0, x1⟩ := st_cells (HRS.out.below (HBB.out.symm ▸ HB4.out)) ha
          cases hra
          have HA := Lib.hid ha
          have HFS := Lib.hid (foldl_snocN (newS n k st key) (0, ByteArray.empty, false) ha)
          obtain ⟨W4, hW4⟩ : ∃ W4, wl.alloc (.cells #[.int .i64 (a : Int), .int .i64 0] 38) = W4 := ⟨_, rfl⟩
          have hb4 : Below wl.heap.size wl W4 := by rw [← hW4]; exact below_alloc _ _
          have n0 : W4.cell? ⟨wl.heap.size, 0, none⟩ = some (.int .i64 (a : Int)) := by rw [← hW4]; simp [World.cell?_alloc_new]
          have n1 : W4.cell? ⟨wl.heap.size, 1, none⟩ = some (.int .i64 0) := by rw [← hW4]; simp [World.cell?_alloc_new]
          have hh4 : W4.heap[B2]? = some (.cells #[.int .i64 (b1 : Int), .int .i64 0] 38 (0, 0)) := by rw [← hW4]; exact heap_alloc_old _ _ HH.out
          have m0 := heap_cell hh4 0
          have m1 := heap_cell hh4 1
          simp only [List.getElem?_toArray, List.getElem?_cons_zero, List.getElem?_cons_succ] at m0 m1
          rw [← hW4] at m0 m1
          have HB44 := Lib.hid hb4
          have HH4 := Lib.hid hh4
          have HSl : Hid (wl.heap.size < W4.heap.size) := Lib.hid (by rw [← hW4]; simp)
          have HSE : Hid (W4.heap.size = wl.heap.size + 1) := Lib.hid (by rw [← hW4]; simp)
          have HW4 := Lib.hid hW4
          clear ha hb4 hh4 hW4
          cases f1 with
          | true =>
            have CN := Lib.hid (fun W => quorum_Newer (a : Int) 0 (b1 : Int) 0 W)
            rw [newB_lt] at CN
            by_cases hba : b1 < a
            · have hd : decide (b1 < a) = true := decide_eq_true hba
              rw [hd] at CN
              have HBA : Hid ((((b1, t1, true) : Best)).2.2 = false ∨ b1 < a) := Lib.hid (.inr hba)
              clear hba hd
              go_wp2_with fail
              (with_reducible refine (CN.out _).mono ?_)
              rintro e w5 ⟨rfl, hb5⟩
              rw [HW4.out] at hb5
              have HB5 : Hid (Below wl.heap.size wl w5) := Lib.hid (HB44.out.trans (hb5.mono (Nat.le_of_lt HSl.out)))
              have HB6 : Hid (Below gs w1 w5) := Lib.hid (HB4'.out.trans (HB5.out.mono (by rw [← HGS.out]; exact (HGS.out.symm ▸ HB4'.out).size)))
              have hS5 := HS1.out _ HB6.out
              have q0 := (hb5.cell (p := ⟨wl.heap.size, 0, none⟩) HSl.out).trans n0
              have q1 := (hb5.cell (p := ⟨wl.heap.size, 1, none⟩) HSl.out).trans n1
              have x4 := hS5.cells.2.2.2.2.1
              have HH5 : Hid (w5.heap[B2]? = some (.cells #[.int .i64 (b1 : Int), .int .i64 0] 38 (0, 0))) := Lib.hid ((hb5.block B2 (Array.getElem?_eq_some_iff.1 HH4.out).1).trans HH4.out)
              have HS45 : Hid (W4.heap.size ≤ w5.heap.size) := Lib.hid hb5.size
              have HQ0 := Lib.hid q0
              have HQ1 := Lib.hid q1
              have HS5 := Lib.hid hS5
              clear hb5 hS5 q0 q1 x0 x1 n0 n1 m0 m1 CN
              go_wp2_with (first
                | (at_make; go_loud (refine make_own rfl _ _ 86 rfl w5.heap.size 9 _ 16 Try.underlying86 strInfoS rfl _ _ _ _ n (by rfl) (by rfl) rfl rfl (by omega) (by unfold maxLen; omega) (Nat.le_refl _) ?_); intro w6 hown6 hg6)
                | fail)
              have HSW : Hid (wl.heap.size < w5.heap.size) := Lib.hid (Nat.lt_of_lt_of_le HSl.out HS45.out)
              obtain ⟨G, hG⟩ : ∃ G, w5.heap.size = G := ⟨_, rfl⟩
              rw [hG]
              have hown6 : Own w6 w5.heap.size 9 G n n (fun _ => .string ByteArray.empty) := by rw [← hG]; rw [hG] at hown6; exact hG ▸ hown6
              clear hG
              have HO6 := Lib.hid hown6
              have HB56 : Hid (Below w5.heap.size w5 w6) := Lib.hid (below_of_grown hg6 (Nat.le_refl _) (fun k hk => by cases hk))
              have HB7 : Hid (Below gs w1 w6) := Lib.hid (HB6.out.trans (HB56.out.mono (by rw [← HGS.out]; exact (HGS.out.symm ▸ HB6.out).size)))
              have HGl : Hid (G < w6.heap.size) := Lib.hid hown6.lt.2
              clear hown6 hg6
              go_wp2_with fail
              (with_reducible refine (CU1.out _ HB7.out).mono ?_)
              rintro e w7 ⟨ao7, cap7, rfl, hown7, hb7⟩
              have HO7 : Hid (Own w7 w5.heap.size 9 G n n (strAt st key a U 0)) := Lib.hid ((HO6.out.below hb7).congr fun j _ => by unfold strAt; simp)
              have HU7 := Lib.hid hown7
              have HB57 : Hid (Below w5.heap.size w5 w7) := Lib.hid (HB56.out.trans (hb7.mono HB56.out.size))
              clear hown7 hb7
              go_wp2_with fail
              go_loopw [73] (fun vq wr => ∃ q : Nat, vq = .int .i64 q ∧ q ≤ u ∧ Hid (Own wr w5.heap.size 9 G n n (strAt st key a U q)) ∧ Hid (wr.ownsRow w6.heap.size 3 1 (.slice ao7 u cap7) u (placeR U)) ∧ Hid (Below w5.heap.size w5 wr)) (fun vq _ => u - (intOf vq).toNat)
              case atStart => exact ⟨0, rfl, by omega, HO7, HU7, HB57⟩
              case round =>
                clear HO7 HU7 HB57
                obtain ⟨q, rfl, hq, HOq, HUq, HBq⟩ := hrel
                obtain ⟨wq, rfl⟩ : ∃ wq, wq = wr := ⟨_, rfl⟩
                have HBq1 : Hid (Below gs w1 wq) := Lib.hid (HB6.out.trans (HBq.out.mono (by rw [← HGS.out]; exact (HGS.out.symm ▸ HB6.out).size)))
                by_cases hqu : q < u
                · obtain ⟨i, hi⟩ : ∃ i, U[q]? = some i := ⟨U[q]'(by rw [HUL.out]; exact hqu), List.getElem?_eq_getElem _⟩
                  have hin := HUM.out i (List.mem_of_getElem? hi)
                  obtain ⟨bu, ou, hra, xu⟩ := (own_reads' HUq.out) q _ (placeR_at hi)
                  cases hra
                  have HI := Lib.hid hi
                  have hSq := HS1.out _ HBq1.out
                  have x4 := hSq.cells.2.2.2.2.1
                  obtain ⟨ak, ck, hvk, hRk, hnk⟩ := hSq.reads hin hkey
                  have xk := hSq.kpc hin hkey
                  rw [hvk] at xk
                  have q0 := (HBq.out.cell (p := ⟨wl.heap.size, 0, none⟩) HSW.out).trans HQ0.out
                  have q1 := (HBq.out.cell (p := ⟨wl.heap.size, 1, none⟩) HSW.out).trans HQ1.out
                  obtain ⟨lk, hlk⟩ : ∃ lk, (st.kp i key).length = lk := ⟨_, rfl⟩
                  have hlk6 := HOK.out.len i key
                  rw [hlk] at xk hlk6
                  have CF : Hid (∀ W, Below wq.heap.size wq W → Calls Try.prog 57 #[.slice ak lk ck, .agg #[.int .i64 (a : Int), .int .i64 0]] W (FindPost (pick (st.kp i key) a) W)) := Lib.hid fun W hb => store_find (st.kp i key) lk a ak ck W hlk (by omega) (Lib.hid (hRk.below hb))
                  unfold FindPost at CF
                  obtain ⟨PK, hPK⟩ : ∃ PK, pick (st.kp i key) a = PK := ⟨_, rfl⟩
                  rw [hPK] at CF
                  have HPK := Lib.hid hPK
                  have hgl := HOq.out.lt
                  have pc := HOq.out.cell hin
                  have pf := HOq.out.frozen i
                  have i0 : (0 : Int) ≤ (i : Int) := by omega
                  have i1 : (i : Int) < (n : Int) := by omega
                  have y0 : (0 : Int) ≤ (key : Int) := by omega
                  have y1 : (key : Int) < 3 := by omega
                  have HLX : Hid (b < wq.heap.size ∧ nb < wq.heap.size ∧ wl.heap.size < wq.heap.size) := Lib.hid ⟨hSq.blt, hSq.nodes.lt.2, Nat.lt_of_lt_of_le HSW.out HBq.out.size⟩
                  have HNE : Hid (b ≠ G ∧ nb ≠ G ∧ wl.heap.size ≠ G) := Lib.hid (by
                    have h1 := HS5.out.blt
                    have h2 := HS5.out.nodes.lt.2
                    have h3 := HSW.out
                    refine ⟨?_, ?_, ?_⟩ <;> omega)
                  clear hi hvk hRk hlk hnk hPK hSq
                  go_wp2_with fail
                  go_region_held3 (fun w' => w'.cell? ⟨b, 4, none⟩ = some (.slice (some ⟨nb, 0, none⟩) n n) ∧ w'.cell? ⟨nb, i * 4 + 1 + key, none⟩ = some (.slice ak lk ck) ∧ w'.cell? ⟨wl.heap.size, 0, none⟩ = some (.int .i64 (a : Int)) ∧ w'.cell? ⟨wl.heap.size, 1, none⟩ = some (.int .i64 0)) (first | exact ⟨(hb9.cell (p := ⟨b, 4, none⟩) HLX.out.1).trans x4, (hb9.cell (p := ⟨nb, i * 4 + 1 + key, none⟩) HLX.out.2.1).trans xk, (hb9.cell (p := ⟨wl.heap.size, 0, none⟩) HLX.out.2.2).trans q0, (hb9.cell (p := ⟨wl.heap.size, 1, none⟩) HLX.out.2.2).trans q1⟩ | exact ⟨far_cell HNE.out.1 ((hb9.cell (p := ⟨b, 4, none⟩) HLX.out.1).trans x4), far_cell HNE.out.2.1 ((hb9.cell (p := ⟨nb, i * 4 + 1 + key, none⟩) HLX.out.2.1).trans xk), far_cell HNE.out.2.2 ((hb9.cell (p := ⟨wl.heap.size, 0, none⟩) HLX.out.2.2).trans q0), far_cell HNE.out.2.2 ((hb9.cell (p := ⟨wl.heap.size, 1, none⟩) HLX.out.2.2).trans q1)⟩ | go_keep)
                    (first | (go_at_call 57; (with_reducible refine (CF.out _ (by first | exact Below.refl _ _ | exact below_drew1 (Below.refl _ _))).mono ?_); rintro e w9 ⟨b9, rfl, hb9⟩; have pc9 := (hb9.cell (p := ⟨G, i, none⟩) hgl.2).trans pc; have pf9 := (hb9.frozen (p := ⟨G, i, none⟩) hgl.2).trans pf))
                  all_goals
                    have HB9 : Hid (Below wq.heap.size wq w9) := Lib.hid (by first | exact hb9 | exact (below_drew1 (Below.refl _ _)).trans hb9)
                    have A9 := (HOq.out.below HB9.out).store i (.string PK)
                    have HOn : Hid (Own (w9.setCell ⟨G, i, none⟩ (.string PK)) w5.heap.size 9 G n n (strAt st key a U (q + 1))) := Lib.hid (A9.1.congr fun x _ => by rw [← HPK.out]; exact strAt_succ st key a HI.out x)
                    have HUn := Lib.hid ((own_below HUq.out HB9.out).kept A9.2 (.inr fun e => by have := (HUq.out.lt _ e).1; have := HGl.out; omega))
                    have HBn : Hid (Below w5.heap.size w5 (w9.setCell ⟨G, i, none⟩ (.string PK))) := Lib.hid (below_set (HBq.out.trans (HB9.out.mono HBq.out.size)) HOq.out.lt.1 _)
                    clear hb9 A9 pc9 pf9
                    go_wp2_with fail
                    go_roundw
                    case rel => exact ⟨q + 1, by go_num, by omega, HOn, HUn, HBn⟩
                    case measure => simp [intOf]; omega
                · obtain rfl : u = q := by omega
                  have hSq := HS1.out _ HBq1.out
                  have c1 := hSq.cells.2.1
                  have CJ := Lib.hid (piece_Join (rowAt n st key a) n (some ⟨G, 0, none⟩) n (k : Int) wq ⟨rowAt_len _ _ _ _, by omega, fun s hs => by
                    unfold rowAt listOf at hs
                    obtain ⟨x, _, rfl⟩ := List.mem_map.1 hs
                    cases st.dn x with
                    | true => simp
                    | false =>
                      have := pick_size (l := st.kp x key) (a := a) (m := 65) (fun y hy => (HOK.out.rng x key y hy).2.2.2)
                      show (pick (st.kp x key) a).size ≤ _
                      omega, by rw [← HDONE.out a]; exact HOq.out.reads⟩)
                  unfold JoinPost at CJ
                  clear hSq
                  go_wp2_with fail
                  (with_reducible refine CJ.out.mono ?_)
                  rintro e w10 ⟨S10, E10, hJ, rfl, hb10⟩
                  have HJ := Lib.hid hJ
                  have HB10 : Hid (Below w5.heap.size w5 w10) := Lib.hid (HBq.out.trans (hb10.mono HBq.out.size))
                  have HH10 : Hid (w10.heap[B2]? = some (.cells #[.int .i64 (b1 : Int), .int .i64 0] 38 (0, 0))) := Lib.hid ((HB10.out.block B2 (Array.getElem?_eq_some_iff.1 HH5.out).1).trans HH5.out)
                  have HBx : Hid (Below B2 wo w10) := Lib.hid (HB4.out.trans ((HB5.out.trans (HB10.out.mono (Nat.le_of_lt HSW.out))).mono HBs.out))
                  have q0 := (HB10.out.cell (p := ⟨wl.heap.size, 0, none⟩) HSW.out).trans HQ0.out
                  have q1 := (HB10.out.cell (p := ⟨wl.heap.size, 1, none⟩) HSW.out).trans HQ1.out
                  clear hb10 hJ CJ
                  by_cases hE : E10 = 0
                  · subst hE
                    have HFn : Hid ((S.take (j + 1)).foldl (newS n k st key) (0, ByteArray.empty, false) = (a, S10, true)) := Lib.hid (by rw [HFS.out, HF.out]; exact newS_yes HBA.out HJ.out)
                    have m0 := heap_cell HH10.out 0
                    have m1 := heap_cell HH10.out 1
                    simp only [List.getElem?_toArray, List.getElem?_cons_zero, List.getElem?_cons_succ] at m0 m1
                    have fr0 := heap_frozen HH10.out 0
                    have fr1 := heap_frozen HH10.out 1
                    have HHn : Hid (((w10.setCell ⟨B2, 0, none⟩ (.int .i64 (a : Int))).setCell ⟨B2, 1, none⟩ (.int .i64 0)).heap[B2]? = some (.cells #[.int .i64 (a : Int), .int .i64 0] 38 (0, 0))) := Lib.hid (by rw [heap_set _ (heap_set _ HH10.out)]; rfl)
                    have HBn : Hid (Below B2 wo ((w10.setCell ⟨B2, 0, none⟩ (.int .i64 (a : Int))).setCell ⟨B2, 1, none⟩ (.int .i64 0))) := Lib.hid (below_set (below_set HBx.out (Nat.le_refl _) _) (Nat.le_refl _) _)
                    go_wp2_with fail
                    go_roundw
                    case rel => exact ⟨j + 1, a, S10, true, by go_num, by omega, rfl, rfl, HFn, HHn, HBn⟩
                    case measure => simp [intOf]; omega
                  · have t0 : ((E10 : Int) == 0) = false := by simp; omega
                    have HFn : Hid ((S.take (j + 1)).foldl (newS n k st key) (0, ByteArray.empty, false) = (b1, t1, true)) := Lib.hid (by rw [HFS.out, HF.out]; exact newS_no hE HJ.out)
                    clear hE
                    go_wp2_with fail
                    go_roundw
                    case rel => exact ⟨j + 1, b1, t1, true, by go_num, by omega, rfl, rfl, HFn, HH10, HBx⟩
                    case measure => simp [intOf]; omega
            · have hd : decide (b1 < a) = false := decide_eq_false hba
              rw [hd] at CN
              have HBA := Lib.hid hba
              clear hba hd
              go_wp2_with fail
              (with_reducible refine (CN.out _).mono ?_)
              rintro e w5 ⟨rfl, hb5⟩
              rw [HW4.out] at hb5
              have HF5 : Hid ((S.take (j + 1)).foldl (newS n k st key) (0, ByteArray.empty, false) = (b1, t1, true)) := Lib.hid (by rw [HFS.out, HF.out]; exact newS_old HBA.out)
              have HH5 : Hid (w5.heap[B2]? = some (.cells #[.int .i64 (b1 : Int), .int .i64 0] 38 (0, 0))) := Lib.hid ((hb5.block B2 (Array.getElem?_eq_some_iff.1 HH4.out).1).trans HH4.out)
              have HB5 : Hid (Below B2 wo w5) := Lib.hid (HB4.out.trans ((HB44.out.trans (hb5.mono (Nat.le_of_lt HSl.out))).mono HBs.out))
              clear hb5
              go_wp2_with fail
              go_roundw
              case rel => exact ⟨j + 1, b1, t1, true, by go_num, by omega, rfl, rfl, HF5, HH5, HB5⟩
              case measure => simp [intOf]; omega
          | false =>
            have HBA : Hid ((((b1, t1, false) : Best)).2.2 = false ∨ b1 < a) := Lib.hid (.inl rfl)
            have HB5 : Hid (Below wl.heap.size wl W4) := Lib.hid HB44.out
            have HB6 : Hid (Below gs w1 W4) := Lib.hid (HB4'.out.trans (HB5.out.mono (by rw [← HGS.out]; exact (HGS.out.symm ▸ HB4'.out).size)))
            have hS5 := HS1.out _ HB6.out
            have q0 := n0
            have q1 := n1
            have x4 := hS5.cells.2.2.2.2.1
            rw [← HW4.out] at x4
            have HH5 : Hid (W4.heap[B2]? = some (.cells #[.int .i64 (b1 : Int), .int .i64 0] 38 (0, 0))) := Lib.hid HH4.out
            have HS45 : Hid (W4.heap.size ≤ W4.heap.size) := Lib.hid (Nat.le_refl _)
            have HQ0 := Lib.hid q0
            have HQ1 := Lib.hid q1
            have HS5 := Lib.hid hS5
            clear hS5 q0 q1 n0 n1 m0 m1
            go_wp2_with (first
              | (at_make; go_loud (refine make_own rfl _ _ 86 rfl W4.heap.size 9 _ 16 Try.underlying86 strInfoS rfl _ _ _ _ n (by rfl) (by rfl) rfl rfl (by omega) (by unfold maxLen; omega) (by rw [HW4.out]; exact Nat.le_refl _) ?_); intro w6 hown6 hg6)
              | fail)
            have HSW : Hid (wl.heap.size < W4.heap.size) := Lib.hid (Nat.lt_of_lt_of_le HSl.out HS45.out)
            rw [HW4.out] at hown6 hg6
            clear x0 x1
            obtain ⟨G, hG⟩ : ∃ G, wl.heap.size + 1 = G := ⟨_, rfl⟩
            rw [hG]
            have hown6 : Own w6 W4.heap.size 9 G n n (fun _ => .string ByteArray.empty) := by rw [← hG, ← HSE.out]; exact hown6
            clear hG
            have HO6 := Lib.hid hown6
            have HB56 : Hid (Below W4.heap.size W4 w6) := Lib.hid (below_of_grown hg6 (Nat.le_refl _) (fun k hk => by cases hk))
            have HB7 : Hid (Below gs w1 w6) := Lib.hid (HB6.out.trans (HB56.out.mono (by rw [← HGS.out]; exact (HGS.out.symm ▸ HB6.out).size)))
            have HGl : Hid (G < w6.heap.size) := Lib.hid hown6.lt.2
            clear hown6 hg6
            go_wp2_with fail
            (with_reducible refine (CU1.out _ HB7.out).mono ?_)
            rintro e w7 ⟨ao7, cap7, rfl, hown7, hb7⟩
            have HO7 : Hid (Own w7 W4.heap.size 9 G n n (strAt st key a U 0)) := Lib.hid ((HO6.out.below hb7).congr fun j _ => by unfold strAt; simp)
            have HU7 := Lib.hid hown7
            have HB57 : Hid (Below W4.heap.size W4 w7) := Lib.hid (HB56.out.trans (hb7.mono HB56.out.size))
            clear hown7 hb7
            go_wp2_with fail
            go_loopw [73] (fun vq wr => ∃ q : Nat, vq = .int .i64 q ∧ q ≤ u ∧ Hid (Own wr W4.heap.size 9 G n n (strAt st key a U q)) ∧ Hid (wr.ownsRow w6.heap.size 3 1 (.slice ao7 u cap7) u (placeR U)) ∧ Hid (Below W4.heap.size W4 wr)) (fun vq _ => u - (intOf vq).toNat)
            case atStart => exact ⟨0, rfl, by omega, HO7, HU7, HB57⟩
            case round =>
              clear HO7 HU7 HB57
              obtain ⟨q, rfl, hq, HOq, HUq, HBq⟩ := hrel
              obtain ⟨wq, rfl⟩ : ∃ wq, wq = wr := ⟨_, rfl⟩
              have HBq1 : Hid (Below gs w1 wq) := Lib.hid (HB6.out.trans (HBq.out.mono (by rw [← HGS.out]; exact (HGS.out.symm ▸ HB6.out).size)))
              by_cases hqu : q < u
              · obtain ⟨i, hi⟩ : ∃ i, U[q]? = some i := ⟨U[q]'(by rw [HUL.out]; exact hqu), List.getElem?_eq_getElem _⟩
                have hin := HUM.out i (List.mem_of_getElem? hi)
                obtain ⟨bu, ou, hra, xu⟩ := (own_reads' HUq.out) q _ (placeR_at hi)
                cases hra
                have HI := Lib.hid hi
                have hSq := HS1.out _ HBq1.out
                have x4 := hSq.cells.2.2.2.2.1
                obtain ⟨ak, ck, hvk, hRk, hnk⟩ := hSq.reads hin hkey
                have xk := hSq.kpc hin hkey
                rw [hvk] at xk
                have q0 := (HBq.out.cell (p := ⟨wl.heap.size, 0, none⟩) HSW.out).trans HQ0.out
                have q1 := (HBq.out.cell (p := ⟨wl.heap.size, 1, none⟩) HSW.out).trans HQ1.out
                obtain ⟨lk, hlk⟩ : ∃ lk, (st.kp i key).length = lk := ⟨_, rfl⟩
                have hlk6 := HOK.out.len i key
                rw [hlk] at xk hlk6
                have CF : Hid (∀ W, Below wq.heap.size wq W → Calls Try.prog 57 #[.slice ak lk ck, .agg #[.int .i64 (a : Int), .int .i64 0]] W (FindPost (pick (st.kp i key) a) W)) := Lib.hid fun W hb => store_find (st.kp i key) lk a ak ck W hlk (by omega) (Lib.hid (hRk.below hb))
                unfold FindPost at CF
                obtain ⟨PK, hPK⟩ : ∃ PK, pick (st.kp i key) a = PK := ⟨_, rfl⟩
                rw [hPK] at CF
                have HPK := Lib.hid hPK
                have hgl := HOq.out.lt
                have pc := HOq.out.cell hin
                have pf := HOq.out.frozen i
                have i0 : (0 : Int) ≤ (i : Int) := by omega
                have i1 : (i : Int) < (n : Int) := by omega
                have y0 : (0 : Int) ≤ (key : Int) := by omega
                have y1 : (key : Int) < 3 := by omega
                have HLX : Hid (b < wq.heap.size ∧ nb < wq.heap.size ∧ wl.heap.size < wq.heap.size) := Lib.hid ⟨hSq.blt, hSq.nodes.lt.2, Nat.lt_of_lt_of_le HSW.out HBq.out.size⟩
                have HNE : Hid (b ≠ G ∧ nb ≠ G ∧ wl.heap.size ≠ G) := Lib.hid (by
                  have h1 := HS5.out.blt
                  have h2 := HS5.out.nodes.lt.2
                  have h3 := HSW.out
                  refine ⟨?_, ?_, ?_⟩ <;> omega)
                clear hi hvk hRk hlk hnk hPK hSq
                go_wp2_with fail
                go_region_held3 (fun w' => w'.cell? ⟨b, 4, none⟩ = some (.slice (some ⟨nb, 0, none⟩) n n) ∧ w'.cell? ⟨nb, i * 4 + 1 + key, none⟩ = some (.slice ak lk ck) ∧ w'.cell? ⟨wl.heap.size, 0, none⟩ = some (.int .i64 (a : Int)) ∧ w'.cell? ⟨wl.heap.size, 1, none⟩ = some (.int .i64 0)) (first | exact ⟨(hb9.cell (p := ⟨b, 4, none⟩) HLX.out.1).trans x4, (hb9.cell (p := ⟨nb, i * 4 + 1 + key, none⟩) HLX.out.2.1).trans xk, (hb9.cell (p := ⟨wl.heap.size, 0, none⟩) HLX.out.2.2).trans q0, (hb9.cell (p := ⟨wl.heap.size, 1, none⟩) HLX.out.2.2).trans q1⟩ | exact ⟨far_cell HNE.out.1 ((hb9.cell (p := ⟨b, 4, none⟩) HLX.out.1).trans x4), far_cell HNE.out.2.1 ((hb9.cell (p := ⟨nb, i * 4 + 1 + key, none⟩) HLX.out.2.1).trans xk), far_cell HNE.out.2.2 ((hb9.cell (p := ⟨wl.heap.size, 0, none⟩) HLX.out.2.2).trans q0), far_cell HNE.out.2.2 ((hb9.cell (p := ⟨wl.heap.size, 1, none⟩) HLX.out.2.2).trans q1)⟩ | go_keep)
                  (first | (go_at_call 57; (with_reducible refine (CF.out _ (by first | exact Below.refl _ _ | exact below_drew1 (Below.refl _ _))).mono ?_); rintro e w9 ⟨b9, rfl, hb9⟩; have pc9 := (hb9.cell (p := ⟨G, i, none⟩) hgl.2).trans pc; have pf9 := (hb9.frozen (p := ⟨G, i, none⟩) hgl.2).trans pf))
                all_goals
                  have HB9 : Hid (Below wq.heap.size wq w9) := Lib.hid (by first | exact hb9 | exact (below_drew1 (Below.refl _ _)).trans hb9)
                  have A9 := (HOq.out.below HB9.out).store i (.string PK)
                  have HOn : Hid (Own (w9.setCell ⟨G, i, none⟩ (.string PK)) W4.heap.size 9 G n n (strAt st key a U (q + 1))) := Lib.hid (A9.1.congr fun x _ => by rw [← HPK.out]; exact strAt_succ st key a HI.out x)
                  have HUn := Lib.hid ((own_below HUq.out HB9.out).kept A9.2 (.inr fun e => by have := (HUq.out.lt _ e).1; have := HGl.out; omega))
                  have HBn : Hid (Below W4.heap.size W4 (w9.setCell ⟨G, i, none⟩ (.string PK))) := Lib.hid (below_set (HBq.out.trans (HB9.out.mono HBq.out.size)) HOq.out.lt.1 _)
                  clear hb9 A9 pc9 pf9
                  go_wp2_with fail
                  go_roundw
                  case rel => exact ⟨q + 1, by go_num, by omega, HOn, HUn, HBn⟩
                  case measure => simp [intOf]; omega
              · obtain rfl : u = q := by omega
                have hSq := HS1.out _ HBq1.out
                have c1 := hSq.cells.2.1
                have CJ := Lib.hid (piece_Join (rowAt n st key a) n (some ⟨G, 0, none⟩) n (k : Int) wq ⟨rowAt_len _ _ _ _, by omega, fun s hs => by
                  unfold rowAt listOf at hs
                  obtain ⟨x, _, rfl⟩ := List.mem_map.1 hs
                  cases st.dn x with
                  | true => simp
                  | false =>
                    have := pick_size (l := st.kp x key) (a := a) (m := 65) (fun y hy => (HOK.out.rng x key y hy).2.2.2)
                    show (pick (st.kp x key) a).size ≤ _
                    omega, by rw [← HDONE.out a]; exact HOq.out.reads⟩)
                unfold JoinPost at CJ
                clear hSq
                go_wp2_with fail
                (with_reducible refine CJ.out.mono ?_)
                rintro e w10 ⟨S10, E10, hJ, rfl, hb10⟩
                have HJ := Lib.hid hJ
                have HB10 : Hid (Below W4.heap.size W4 w10) := Lib.hid (HBq.out.trans (hb10.mono HBq.out.size))
                have HH10 : Hid (w10.heap[B2]? = some (.cells #[.int .i64 (b1 : Int), .int .i64 0] 38 (0, 0))) := Lib.hid ((HB10.out.block B2 (Array.getElem?_eq_some_iff.1 HH5.out).1).trans HH5.out)
                have HBx : Hid (Below B2 wo w10) := Lib.hid (HB4.out.trans ((HB5.out.trans (HB10.out.mono (Nat.le_of_lt HSW.out))).mono HBs.out))
                have q0 := (HB10.out.cell (p := ⟨wl.heap.size, 0, none⟩) HSW.out).trans HQ0.out
                have q1 := (HB10.out.cell (p := ⟨wl.heap.size, 1, none⟩) HSW.out).trans HQ1.out
                clear hb10 hJ CJ
                by_cases hE : E10 = 0
                · subst hE
                  have HFn : Hid ((S.take (j + 1)).foldl (newS n k st key) (0, ByteArray.empty, false) = (a, S10, true)) := Lib.hid (by rw [HFS.out, HF.out]; exact newS_yes (.inl rfl) HJ.out)
                  have m0 := heap_cell HH10.out 0
                  have m1 := heap_cell HH10.out 1
                  simp only [List.getElem?_toArray, List.getElem?_cons_zero, List.getElem?_cons_succ] at m0 m1
                  have fr0 := heap_frozen HH10.out 0
                  have fr1 := heap_frozen HH10.out 1
                  have HHn : Hid (((w10.setCell ⟨B2, 0, none⟩ (.int .i64 (a : Int))).setCell ⟨B2, 1, none⟩ (.int .i64 0)).heap[B2]? = some (.cells #[.int .i64 (a : Int), .int .i64 0] 38 (0, 0))) := Lib.hid (by rw [heap_set _ (heap_set _ HH10.out)]; rfl)
                  have HBn : Hid (Below B2 wo ((w10.setCell ⟨B2, 0, none⟩ (.int .i64 (a : Int))).setCell ⟨B2, 1, none⟩ (.int .i64 0))) := Lib.hid (below_set (below_set HBx.out (Nat.le_refl _) _) (Nat.le_refl _) _)
                  go_wp2_with fail
                  go_roundw
                  case rel => exact ⟨j + 1, a, S10, true, by go_num, by omega, rfl, rfl, HFn, HHn, HBn⟩
                  case measure => simp [intOf]; omega
                · have t0 : ((E10 : Int) == 0) = false := by simp; omega
                  have HFn : Hid ((S.take (j + 1)).foldl (newS n k st key) (0, ByteArray.empty, false) = (b1, t1, false)) := Lib.hid (by rw [HFS.out, HF.out]; exact newS_no hE HJ.out)
                  clear hE
                  go_wp2_with fail
                  go_roundw
                  case rel => exact ⟨j + 1, b1, t1, false, by go_num, by omega, rfl, rfl, HFn, HH10, HBx⟩
                  case measure => simp [intOf]; omega
        · obtain rfl : ls = j := by omega
          have HN : Hid (NW = (b1, t1, f1)) := Lib.hid (by rw [HNW.out, ← HF.out, List.take_of_length_le (by rw [HLS.out]; exact Nat.le_refl _)])
          have hrb : w.heap.size < gb := by rw [← HGB.out, HSZ.out]; omega
          have HBa : Hid (Below gb W1 wl) := Lib.hid (HB1.out.trans (HB4'.out.mono (by rw [← HGS.out]; have hz := HB1.out.size; rw [HGB.out] at hz; exact hz)))
          have hres : wl.heap[w.heap.size]? = some (.cells #[.int .i64 0, .int .i64 0] 38 (0, 0)) := (HBa.out.block _ hrb).trans HRES.out
          have r0 := heap_cell hres 0
          have r1 := heap_cell hres 1
          have m0 := heap_cell HH.out 0
          have m1 := heap_cell HH.out 1
          simp only [List.getElem?_toArray, List.getElem?_cons_zero, List.getElem?_cons_succ] at m0 m1 r0 r1
          have fr0 := heap_frozen hres 0
          have fr1 := heap_frozen hres 1
          have h2 := heap_set (.int .i64 0) (j := 1) (heap_set (.int .i64 (b1 : Int)) (j := 0) hres)
          have s0 := heap_cell h2 0
          have s1 := heap_cell h2 1
          have HBz : Hid (Below w.heap.size w ((wl.setCell ⟨w.heap.size, 0, none⟩ (.int .i64 (b1 : Int))).setCell ⟨w.heap.size, 1, none⟩ (.int .i64 0))) := Lib.hid (below_set (below_set (HB0.out.trans (HBa.out.mono (Nat.le_of_lt hrb))) (Nat.le_refl _) _) (Nat.le_refl _) _)
          have s0' : ((wl.setCell ⟨w.heap.size, 0, none⟩ (.int .i64 (b1 : Int))).setCell ⟨w.heap.size, 1, none⟩ (.int .i64 0)).cell? ⟨w.heap.size, 0, none⟩ = some (.int .i64 (b1 : Int)) := by rw [s0]; rfl
          have s1' : ((wl.setCell ⟨w.heap.size, 0, none⟩ (.int .i64 (b1 : Int))).setCell ⟨w.heap.size, 1, none⟩ (.int .i64 0)).cell? ⟨w.heap.size, 1, none⟩ = some (.int .i64 0) := by rw [s1]; rfl
          clear h2 s0 s1 hrb hres
          go_wp2_with fail
          refine bodyPost_ret (v := .tuple #[.agg #[.int .i64 (b1 : Int), .int .i64 0], .string t1, .bool f1]) (by simp [results, Try.results41, go_sem, s0', s1']; try rfl) rfl ?_
          exact ⟨by rw [HN.out], HBz.out⟩
end Go.Proofs.Ytioecklnijhjgaa
