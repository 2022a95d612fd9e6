/- package store: rot, at. -/
import Derived.Test.YtioecklnijhjgaaPlM22
import Derived.Test.YtioecklnijhjgaaPlM31
import Derived.Test.YtioecklnijhjgaaPlM26
import Derived.Test.YtioecklnijhjgaaPlM20
import Derived.Test.YtioecklnijhjgaaPlM16
import Derived.Deep.RegionHeld
import Derived.Test.YtioecklnijhjgaaStoreM
set_option linter.unusedVariables false
set_option linter.unusedSimpArgs false
namespace Go.Proofs.Ytioecklnijhjgaa
open Go.RowKit

def AtPost (base : Nat) (Av : Nat → Prop) (n k wr r b nb : Nat) (R : St × Nat) (w : World) (e : Ending) (w' : World) : Prop :=
  e = .returned (.int .i64 (R.2 : Nat)) ∧ (∃ V', Shf w' base Av n k wr r b nb V' R.1) ∧ Kept Av base w w'
theorem u8_flip (a : Nat) (h : a < 256) : bits .xor .u8 (a : Int) 1 = ((a ^^^ 1 : Nat) : Int) ∧ a ^^^ 1 < 256 := by
  have : ∀ a : Fin 256, bits .xor .u8 (a.val : Int) 1 = ((a.val ^^^ 1 : Nat) : Int) ∧ a.val ^^^ 1 < 256 := by decide +kernel
  exact this ⟨a, h⟩
theorem rotK_cells {L : List Kp} (h : L.length ≠ 0) : kpCells (rotK L) = (kpCells L).set ((L.length - 1) * 3 + 2) (.string (flipS (L.getLastD (0, ByteArray.empty)).2)) := by
  have e := last_snoc h
  have hd : L.dropLast.length = L.length - 1 := by simp
  obtain ⟨D, hD⟩ : ∃ D, L.dropLast = D := ⟨_, rfl⟩
  obtain ⟨x, hx⟩ : ∃ x, L.getLastD (0, ByteArray.empty) = x := ⟨_, rfl⟩
  rw [hD] at e hd
  rw [hx] at e
  unfold rotK
  rw [hD, hx, ← hd, ← e]
  simp only [kpCells_snoc]
  rw [List.set_append_right _ _ (by rw [kpCells_len]; omega), kpCells_len]
  have : D.length * 3 + 2 - D.length * 3 = 2 := by omega
  rw [this]
  rfl
theorem last_at {L : List Kp} (h : L.length ≠ 0) : L[L.length - 1]'(by omega) = L.getLastD (0, ByteArray.empty) := by
  have hne : L ≠ [] := by intro e; rw [e] at h; exact h rfl
  rw [List.getLastD_eq_getLast?, List.getLast?_eq_some_getLast hne, List.getLast_eq_getElem]
  rfl
set_option maxRecDepth 100000 in
set_option maxHeartbeats 4000000 in
theorem store_rot {w : World} {base : Nat} {Av : Nat → Prop} {n k wr r b nb : Nat} {V : Nat → Nat → Value} {st : St} (kind : Int) (key m : Nat) (text : ByteArray) (hkey : key < 3) (hm : m < n) (hn : n ≤ 10) (h : Shf w base Av n k wr r b nb V st) :
    Calls Try.prog 45 #[.pointer (some ⟨b, 0, none⟩), deedV kind (key : Int) (m : Int) text] w (AtPost base Av n k wr r b nb (rotF st key m) w) := by
  obtain ⟨W1, hW1⟩ : ∃ W1, w.alloc (.cells #[.int .i64 kind, .int .i64 (key : Int), .int .i64 (m : Int), .string text] 36) = W1 := ⟨_, rfl⟩
  have hb1 : Below w.heap.size w W1 := by rw [← hW1]; exact below_alloc _ _
  have hd1 : W1.heap[w.heap.size]? = some (.cells #[.int .i64 kind, .int .i64 (key : Int), .int .i64 (m : Int), .string text] 36 (0, 0)) := by rw [← hW1]; exact heap_alloc_new w _
  have d1 := heap_cell hd1 1
  have d2 := heap_cell hd1 2
  simp only [List.getElem?_toArray, List.getElem?_cons_zero, List.getElem?_cons_succ] at d1 d2
  have hS := h.below hb1
  have x4 := hS.cells.2.2.2.2.1
  obtain ⟨ak, ck, hvk, hRk, hnk⟩ := hS.reads hm hkey
  have xk := hS.kpc hm hkey
  rw [hvk] at xk
  have hlk6 := h.ok.len m key
  have HS := Lib.hid hS
  have HK1 := Lib.hid (h.kept hb1)
  have HF : Hid (rotF st key m = if (st.kp m key).length = 0 then (st, 4) else (st.set m key (rotK (st.kp m key)), 0)) := Lib.hid rfl
  have HOKR := Lib.hid (h.ok.rot m key)
  have HRNG := Lib.hid (h.ok.rng m key)
  obtain ⟨L, hL⟩ : ∃ L, st.kp m key = L := ⟨_, rfl⟩
  rw [hL] at hvk hRk hnk xk hlk6 HF HOKR HRNG
  obtain ⟨lk, hlk⟩ : ∃ lk, L.length = lk := ⟨_, rfl⟩
  rw [hlk] at hvk hnk xk hlk6 HF
  have HL := Lib.hid hL
  have HVK := Lib.hid hvk
  have HRK := Lib.hid hRk
  have m0 : (0 : Int) ≤ (m : Int) := by omega
  have m1 : (m : Int) < (n : Int) := by omega
  have y0 : (0 : Int) ≤ (key : Int) := by omega
  have y1 : (key : Int) < 3 := by omega
  by_cases hz : lk = 0
  · have t0 : ((lk : Int) == 0) = true := by simp; omega
    have HFZ : Hid (rotF st key m = (st, 4)) := Lib.hid (by rw [HF.out, if_pos hz])
    clear h hS hb1 hd1 hL hvk hRk hnk hlk hz HF
    go_enter Try.func45, Try.ntmps45
    go_wp2_with fail
    clear hW1
    go_quiet (fail)
    go_wp2_with fail
    go_ret
    rw [HFZ.out]
    exact ⟨rfl, ⟨V, HS.out.below (below_dr _ _ _)⟩, HK1.out.trans ⟨below_dr _ _ _, fun _ _ => rfl⟩⟩
  · have t0 : ((lk : Int) == 0) = false := by simp; omega
    have HFZ : Hid (rotF st key m = (st.set m key (rotK L), 0)) := Lib.hid (by rw [HF.out, if_neg hz])
    have hla := last_at (L := L) (by rw [hlk]; exact hz)
    obtain ⟨bk, ok, hrk, z0, z1, z2⟩ := kp_cells hRk (k := lk - 1) (by omega)
    obtain ⟨x, hx⟩ : ∃ x, L.getLastD (0, ByteArray.empty) = x := ⟨_, rfl⟩
    have hla2 : L[lk - 1]'(by omega) = x := by rw [← hx, ← hla]; congr 1; omega
    rw [hla2] at z0 z2
    have hxr := HRNG.out x (by rw [← hla2]; exact List.getElem_mem _)
    have hrow := HS.out.row m key hm hkey
    rw [HL.out, hvk, hrk] at hrow
    have ho : ok = 0 := by
      rcases hrow.2 with ⟨hv, _⟩ | ⟨g', c', cur, hv, _⟩
      · cases hv
      · cases hv; rfl
    subst ho
    subst hrk
    obtain ⟨lq, rfl⟩ : ∃ lq, lk = lq + 1 := ⟨lk - 1, by omega⟩
    rw [show lq + 1 - 1 = lq by omega] at z0 z1 z2
    obtain ⟨q, s⟩ := x
    have hs5 : 5 ≤ s.size ∧ s.size ≤ 65 := hxr.2.2
    have hlen := rotK_len (l := L) (by rw [hlk]; exact hz)
    have hcells := rotK_cells (L := L) (by rw [hlk]; exact hz)
    rw [hx, hlk, show lq + 1 - 1 = lq by omega] at hcells
    have BS := run_bytes_of_string (P := Try.prog) W1.drew 9 73 5 s Try.underlying9 Try.underlying73 Try.underlying5
    obtain ⟨gc, hgc⟩ : ∃ gc, grownCap W1.drew s.size 0 5 = gc := ⟨_, rfl⟩
    rw [hgc] at BS
    obtain ⟨gb, hgb⟩ : ∃ gb, W1.drew.heap.size = gb := ⟨_, rfl⟩
    have RC : RowC (W1.drew.drew.alloc (.cells (bytesRow s gc) 5 ((bytesRow s gc).size, (bytesRow s gc).size + 1))) gb s.size (fun j => .int .u8 (byteS s j : Nat)) := by rw [← hgb]; exact rowC_of_string W1.drew.drew s gc
    have B7 : Below W1.heap.size W1 (W1.drew.drew.alloc (.cells (bytesRow s gc) 5 ((bytesRow s gc).size, (bytesRow s gc).size + 1))) := (below_drew1 (below_dr _ _ 1)).alloc (Nat.le_refl _) _
    obtain ⟨W7, hW7⟩ : ∃ W7, W1.drew.drew.alloc (.cells (bytesRow s gc) 5 ((bytesRow s gc).size, (bytesRow s gc).size + 1)) = W7 := ⟨_, rfl⟩
    rw [hW7] at BS RC B7
    rw [hgb] at BS
    obtain ⟨c, hc⟩ : ∃ c, byteS s 0 = c := ⟨_, rfl⟩
    have hcl : c < 256 := by rw [← hc]; exact byteS_lt _ _
    have hrc0 := RC 0 (by omega)
    dsimp only at hrc0
    rw [hc] at hrc0
    obtain ⟨rc0, rf0⟩ := hrc0
    obtain ⟨fx, fl⟩ := u8_flip c hcl
    obtain ⟨f, hf⟩ : ∃ f, c ^^^ 1 = f := ⟨_, rfl⟩
    rw [hf] at fx fl
    have RC8 := RC.store (i := 0) (by omega) (.int .u8 (f : Int))
    have B8 : Below W1.heap.size W1 (W7.setCell ⟨gb, 0, none⟩ (.int .u8 (f : Int))) := below_set B7 (by rw [← hgb]; exact Nat.le_refl _) _
    obtain ⟨W8, hW8⟩ : ∃ W8, W7.setCell ⟨gb, 0, none⟩ (.int .u8 (f : Int)) = W8 := ⟨_, rfl⟩
    rw [hW8] at RC8 B8
    have KB := conv_back s.size (fun j => if j = 0 then f else byteS s j) (some ⟨gb, 0, none⟩) gc W8 (by intro k _; split; exact fl; exact byteS_lt _ _) (fun h => by cases h) (by
      have h1 := RC8.reads
      have e : rowF s.size (fun j => if j = 0 then Value.int .u8 (f : Int) else .int .u8 (byteS s j : Nat)) = rowF s.size (fun k => .int .u8 ((if k = 0 then f else byteS s k : Nat) : Int)) := rowF_congr fun j _ => by
        by_cases hj0 : j = 0
        · rw [if_pos hj0, if_pos hj0]
        · rw [if_neg hj0, if_neg hj0]
      rw [e] at h1
      exact h1)
    have hfs : bytesOf s.size (fun j => if j = 0 then f else byteS s j) = flipS s := by unfold flipS; rw [hc, hf]
    rw [hfs] at KB
    have hS8 := HS.out.below B8
    have hrow8 := own_below hrow B8
    rw [hlk] at hrow8
    have hst := World.ownsRow.stored hrow8 (lq * 3 + 2) (.string (flipS s))
    have hpk := hS8.poke (l := rotK L) hm hkey (w1 := W8.setCell ⟨bk, lq * 3 + 2, none⟩ (.string (flipS s))) (by rw [hvk]; exact hst.2) (by rw [hvk, hlen, hlk, hcells]; exact hst.1) (by have h1 := HOKR.out (by rw [hlk]; exact hz); exact h1)
    have HPK := Lib.hid (And.intro hpk.1 (HK1.out.trans ((HS.out.kept B8).trans hpk.2)))
    have z8 := (B8.cell (p := ⟨bk, 0 + lq * 3 + 2, none⟩) (World.block_lt_of_cell? _ _ z2)).trans z2
    rw [Nat.zero_add] at z8
    have fz8 : W8.frozen? ⟨bk, lq * 3 + 2, none⟩ = false := World.ownsRow.frozenAt hrow8 _
    obtain ⟨FS, hFS⟩ : ∃ FS, flipS s = FS := ⟨_, rfl⟩
    rw [hFS] at KB HPK
    have xk' : W1.drew.cell? ⟨nb, m * 4 + 1 + key, none⟩ = some (.slice (some ⟨bk, 0, none⟩) (lq + 1) ck) := xk
    rw [Nat.zero_add] at z0 z1 z2
    have s0 : (0 : Int) < (s.size : Int) := by omega
    have s0' : 0 < s.size := by omega
    have HX1 := Lib.hid hW1
    clear h hS hb1 hd1 hL hvk hRk hnk hlk hz HF hla hla2 hx hxr hrow hlen hcells hgc hgb hc hcl RC B7 hW7 hf RC8 B8 hfs hS8 hrow8 hst hpk hFS HRNG HOKR
    go_enter Try.func45, Try.ntmps45
    go_wp2_with fail
    clear hW1
    go_region_held (fun w' => w'.cell? ⟨b, 4, none⟩ = some (.slice (some ⟨nb, 0, none⟩) n n) ∧ w'.cell? ⟨w.heap.size, 1, none⟩ = some (.int .i64 (key : Int)) ∧ w'.cell? ⟨w.heap.size, 2, none⟩ = some (.int .i64 (m : Int)) ∧ w'.cell? ⟨nb, m * 4 + 1 + key, none⟩ = some (.slice (some ⟨bk, 0, none⟩) (lq + 1) ck)) (go_keep) (fail)
    all_goals
      go_wp2_with fail
      go_ret
      rw [HFZ.out]
      exact ⟨rfl, ⟨V, HPK.out.1⟩, HPK.out.2⟩
set_option maxRecDepth 100000 in
set_option maxHeartbeats 4000000 in
theorem store_at {w : World} {base : Nat} {Av : Nat → Prop} {n k wr r b nb : Nat} {V : Nat → Nat → Value} {st : St} (kind : Int) (hkind : kind = 4 ∨ kind = 5 ∨ kind = 6 ∨ kind = 7) (key m : Int) (text : ByteArray) (hkey : kind = 7 → 0 ≤ key ∧ key < 3) (hn : n ≤ 10) (h : Shf w base Av n k wr r b nb V st) :
    Calls Try.prog 22 #[.pointer (some ⟨b, 0, none⟩), deedV kind key m text] w (AtPost base Av n k wr r b nb (atF n st kind key.toNat m) w) := by
  obtain ⟨W1, hW1⟩ : ∃ W1, w.alloc (.cells #[.int .i64 kind, .int .i64 key, .int .i64 m, .string text] 36) = W1 := ⟨_, rfl⟩
  have hb1 : Below w.heap.size w W1 := by rw [← hW1]; exact below_alloc _ _
  have hd1 : W1.heap[w.heap.size]? = some (.cells #[.int .i64 kind, .int .i64 key, .int .i64 m, .string text] 36 (0, 0)) := by rw [← hW1]; exact heap_alloc_new w _
  have d0 := heap_cell hd1 0
  have d1 := heap_cell hd1 1
  have d2 := heap_cell hd1 2
  have d3 := heap_cell hd1 3
  simp only [List.getElem?_toArray, List.getElem?_cons_zero, List.getElem?_cons_succ] at d0 d1 d2 d3
  have hS := h.below hb1
  have x4 := hS.cells.2.2.2.2.1
  have CI := Lib.hid (store_isNode m x4)
  unfold BoolQ at CI
  have HS := Lib.hid hS
  have HK1 := Lib.hid (h.kept hb1)
  clear h hS hb1 hd1
  by_cases g : m < 0 ∨ (n : Int) ≤ m
  · have hF : Hid (atF n st kind key.toNat m = (st, 1)) := Lib.hid (by unfold atF; rw [if_pos g])
    have hI : (decide (0 ≤ m) && decide (m < (n : Int))) = false := by simp; omega
    rw [hI] at CI
    clear g hI hkind hkey
    go_enter Try.func22, Try.ntmps22
    go_wp2_with fail
    (with_reducible refine CI.out.mono ?_)
    rintro e w2 ⟨rfl, rfl⟩
    go_wp2_with fail
    go_ret
    rw [hF.out]
    exact ⟨rfl, ⟨V, HS.out⟩, HK1.out⟩
  obtain ⟨i, rfl⟩ : ∃ i : Nat, m = i := ⟨m.toNat, by omega⟩
  have hin : i < n := by omega
  have hI : (decide (0 ≤ (i : Int)) && decide ((i : Int) < (n : Int))) = true := by simp; omega
  rw [hI] at CI
  have HF : Hid (atF n st kind key.toNat i = if kind = 4 then (st.down i true, 0) else if kind = 5 then (st.down i false, 0) else if kind = 6 then (st.lose i, 0) else if kind = 7 then rotF st key.toNat i else (st, 0)) := Lib.hid (by
    unfold atF
    rw [if_neg g]
    rfl)
  have m0 : (0 : Int) ≤ (i : Int) := by omega
  have m1 : (i : Int) < (n : Int) := by omega
  have xdn := HS.out.dnc hin
  have fdn := HS.out.nodes.frozen (i * 4)
  have xk0 := HS.out.kpc hin (show 0 < 3 by omega)
  have xk1 := HS.out.kpc hin (show 1 < 3 by omega)
  have xk2 := HS.out.kpc hin (show 2 < 3 by omega)
  have fk0 := HS.out.nodes.frozen (i * 4 + 1)
  have fk1 := HS.out.nodes.frozen (i * 4 + 1 + 1)
  have fk2 := HS.out.nodes.frozen (i * 4 + 1 + 2)
  have fk1' := HS.out.nodes.frozen (i * 4 + 2)
  have fk2' := HS.out.nodes.frozen (i * 4 + 3)
  have xk1' : W1.cell? ⟨nb, i * 4 + 2, none⟩ = some (V i 1) := xk1
  have xk2' : W1.cell? ⟨nb, i * 4 + 3, none⟩ = some (V i 2) := xk2
  rw [Nat.add_zero] at xk0
  have HWR : ∀ q, Shf (W1.drewN q) base Av n k wr r b nb V st ∧ Kept Av base w (W1.drewN q) := fun q => ⟨HS.out.below (below_dr _ _ q), HK1.out.trans ⟨below_dr _ _ q, fun _ _ => rfl⟩⟩
  have HWQ := Lib.hid HWR
  clear g hI HWR
  rcases hkind with rfl | rfl | rfl | rfl
  · have hF : Hid (atF n st 4 key.toNat i = (st.down i true, 0)) := Lib.hid (by rw [HF.out, if_pos rfl])
    clear HF hkey
    go_enter Try.func22, Try.ntmps22
    go_wp2_with fail
    (with_reducible refine CI.out.mono ?_)
    clear hW1
    rintro e w2 ⟨rfl, rfl⟩
    go_wp2_with fail
    go_quiet (fail)
    go_wp2_with fail
    go_ret
    rw [hF.out]
    exact ⟨rfl, ⟨V, ((HWQ.out _).1.put_dn hin true).1⟩, (HWQ.out _).2.trans ((HWQ.out _).1.put_dn hin true).2⟩
  · have hF : Hid (atF n st 5 key.toNat i = (st.down i false, 0)) := Lib.hid (by rw [HF.out]; rfl)
    clear HF hkey
    go_enter Try.func22, Try.ntmps22
    go_wp2_with fail
    (with_reducible refine CI.out.mono ?_)
    clear hW1
    rintro e w2 ⟨rfl, rfl⟩
    go_wp2_with fail
    go_quiet (fail)
    go_wp2_with fail
    go_ret
    rw [hF.out]
    exact ⟨rfl, ⟨V, ((HWQ.out _).1.put_dn hin false).1⟩, (HWQ.out _).2.trans ((HWQ.out _).1.put_dn hin false).2⟩
  · have hF : Hid (atF n st 6 key.toNat i = (st.lose i, 0)) := Lib.hid (by rw [HF.out]; rfl)
    clear HF hkey
    go_enter Try.func22, Try.ntmps22
    go_wp2_with fail
    (with_reducible refine CI.out.mono ?_)
    clear hW1
    rintro e w2 ⟨rfl, rfl⟩
    go_wp2_with fail
    go_quiet (fail)
    go_wp2_with fail
    go_ret
    rw [hF.out]
    exact ⟨rfl, ((HWQ.out _).1.put_lose hin).1, (HWQ.out _).2.trans ((HWQ.out _).1.put_lose hin).2⟩
  · have hF : Hid (atF n st 7 key.toNat i = rotF st key.toNat i) := Lib.hid (by rw [HF.out]; rfl)
    obtain ⟨kk, rfl⟩ : ∃ kk : Nat, key = kk := ⟨key.toNat, by have := hkey rfl; omega⟩
    have CR := Lib.hid (fun q => store_rot (w := W1.drewN q) 7 kk i text (by have := hkey rfl; omega) hin hn (HWQ.out q).1)
    unfold AtPost at CR
    clear HF hkey
    go_enter Try.func22, Try.ntmps22
    go_wp2_with fail
    (with_reducible refine CI.out.mono ?_)
    clear hW1
    rintro e w2 ⟨rfl, rfl⟩
    go_wp2_with fail
    go_quiet (fail)
    go_wp2_with fail
    (with_reducible refine (CR.out _).mono ?_)
    rintro e w3 ⟨rfl, hS3, hK3⟩
    have HQ := Lib.hid (And.intro hS3 ((HWQ.out _).2.trans hK3))
    clear hS3 hK3
    go_wp2_with fail
    go_ret
    rw [hF.out]
    exact ⟨rfl, HQ.out.1, HQ.out.2⟩
end Go.Proofs.Ytioecklnijhjgaa
namespace Go.Proofs.Ytioecklnijhjgaa
open Go.RowKit

theorem byteS_left {a b : ByteArray} {k : Nat} (h : k < a.size) : byteS (a ++ b) k = byteS a k := by
  unfold byteS
  have e : (a ++ b).data.toList = a.data.toList ++ b.data.toList := by rw [ByteArray.data_append, Array.toList_append]
  rw [e, List.getD_eq_getElem?_getD, List.getD_eq_getElem?_getD, List.getElem?_append_left (by simpa using h)]
theorem ext_left (a b : ByteArray) : (a ++ b).extract 0 a.size = a := by
  apply ByteArray.ext
  apply Array.toList_inj.1
  rw [ByteArray.data_extract, ByteArray.data_append]
  simp
  have : a.size = a.data.toList.length := by simp
  rw [this, List.take_length]
theorem ext_right (a b : ByteArray) : (a ++ b).extract a.size (a.size + b.size) = b := by
  apply ByteArray.ext
  apply Array.toList_inj.1
  rw [ByteArray.data_extract, ByteArray.data_append]
  simp
  have h1 : a.size = a.data.toList.length := by simp
  have h2 : b.size = b.data.toList.length := by simp
  rw [h1, List.drop_length, h2, List.take_length]
  simp
theorem headS_piece (T m : Nat) (f : Nat → Nat) : headS (pieceS T m f) = strOf (bodyL T m f) := by
  unfold headS
  have hs := pieceS_size T m f
  have hb : (strOf (bodyL T m f)).size = m + 1 := by rw [strOf_size, bodyL_len]
  rw [hs, show m + 5 - 4 = (strOf (bodyL T m f)).size by rw [hb]; omega]
  exact ext_left _ _
theorem tailS_piece (T m : Nat) (f : Nat → Nat) : tailS (pieceS T m f) = strOf (fourL (crcN (strOf (bodyL T m f)))) := by
  unfold tailS
  have hs := pieceS_size T m f
  have hb : (strOf (bodyL T m f)).size = m + 1 := by rw [strOf_size, bodyL_len]
  have h4 : (strOf (fourL (crcN (strOf (bodyL T m f))))).size = 4 := by rw [strOf_size]; rfl
  have e := ext_right (strOf (bodyL T m f)) (strOf (fourL (crcN (strOf (bodyL T m f)))))
  rw [hb, h4] at e
  rw [hs]
  exact e
theorem bodyL_lt {T m : Nat} {f : Nat → Nat} (hT : T < 256) (hf : ∀ i, f i < 256) : ∀ c ∈ bodyL T m f, c < 256 := by
  intro c hc
  unfold bodyL at hc
  rcases List.mem_cons.1 hc with rfl | hc
  · exact hT
  · obtain ⟨i, _, rfl⟩ := List.mem_map.1 hc; exact hf i
theorem byteS_piece0 {T m : Nat} {f : Nat → Nat} (hT : T < 256) (hf : ∀ i, f i < 256) : byteS (pieceS T m f) 0 = T := by
  unfold pieceS
  rw [byteS_left (by rw [strOf_size, bodyL_len]; omega), strOf_get (by rw [bodyL_len]; omega) (bodyL_lt hT hf)]
  rfl
theorem byteS_piece1 {T m : Nat} {f : Nat → Nat} (hT : T < 256) (hf : ∀ i, f i < 256) {i : Nat} (hi : i < m) : byteS (pieceS T m f) (1 + i) = f i := by
  unfold pieceS
  rw [byteS_left (by rw [strOf_size, bodyL_len]; omega), strOf_get (by rw [bodyL_len]; omega) (bodyL_lt hT hf)]
  unfold bodyL
  rw [Nat.add_comm, List.getD_eq_getElem?_getD, List.getElem?_cons_succ]
  simp [hi]
theorem pieceE_piece {T k : Nat} {f : Nat → Nat} (hT : T ≤ 60) (hf : ∀ i, f i < 256) (hk : 1 ≤ k) (hk2 : k ≤ 10) : pieceE (pieceS T (sizeN T k) f) (k : Int) = 0 := by
  unfold pieceE
  rw [if_neg (by omega), if_neg (by rw [pieceS_size]; omega)]
  rw [if_neg (by
    intro h
    apply h
    rw [tailS_piece]
    unfold fourS
    rw [headS_piece])]
  rw [if_neg (by
    rw [byteS_piece0 (by omega) hf, pieceS_size]
    simp only [Int.toNat_natCast]
    omega)]
theorem pieceE_empty {k : Nat} (hk : 1 ≤ k) (hk2 : k ≤ 10) : pieceE ByteArray.empty (k : Int) ≠ 0 := by
  unfold pieceE
  rw [if_neg (by omega), if_pos (by simp)]
  decide
theorem rowP_of' {B : Nat → GF} {l : List Nat} {k : Nat} {f : GF → GF} (hf : PolyF k f) (hk : k ≤ l.length) (hn : l.Nodup) (hl : ∀ a ∈ l, a < 256) (h : ∀ a ∈ l, f (gf a) = B a) (x : GF) : rowP B l k x = f x :=
  lag_uniq gfld hf _ _ (fun i j hi hj hij => atP_ne hn hl i j (by omega) (by omega) hij) (fun j hj => h _ (getD_mem (by omega))) x
theorem gf_of_val (x : GF) : gf x.val = x := by
  exact GF.ext (gf_val x.lt)
/-- What is made of so many pieces. -/
theorem join_pieces {text : ByteArray} {n k : Nat} {ss : List ByteArray} {H : Nat → Bool} (ht : text.size ≤ 60) (hk : 1 ≤ k) (hkn : k ≤ n) (hn : n ≤ 10) (hyes : ∀ i, i < n → H i = true → sAt ss i = pcs text k i) (hno : ∀ i, i < n → H i = false → sAt ss i = ByteArray.empty)
    (hcnt : k ≤ (pl H n).length) : JoinIs ss n (k : Int) text 0 := by
  have hus : ∀ i, i < n → usB ss (k : Int) i = H i := by
    intro i hi
    unfold usB
    cases h : H i with
    | true =>
      rw [hyes i hi h]
      exact decide_eq_true (pieceE_piece ht (fun j => pcF_lt _ _ _ _) hk (by omega))
    | false =>
      rw [hno i hi h]
      exact decide_eq_false (pieceE_empty hk (by omega))
  have hgood : goodJ ss (k : Int) n = pl H n := by
    unfold goodJ pl
    apply List.filter_congr
    intro i hi
    exact hus i (List.mem_range.1 hi)
  have hfirst : ∀ a ∈ pl H n, firstB ss a = text.size := by
    intro a ha
    obtain ⟨h1, h2⟩ := mem_pl.1 ha
    unfold firstB
    rw [hyes a h1 h2]
    exact byteS_piece0 (by omega) (fun j => pcF_lt _ _ _ _)
  have hne : pl H n ≠ [] := by intro h; rw [h] at hcnt; simp at hcnt; omega
  have hlen : lenT ss (k : Int) n = text.size := by
    unfold lenT
    rw [hgood]
    cases hp : pl H n with
    | nil => exact absurd hp hne
    | cons a t => exact hfirst a (by rw [hp]; simp)
  have hm : lenM ss (k : Int) n = sizeN text.size k := by unfold lenM; rw [hlen]; rfl
  have hrow : ∀ i, i < sizeN text.size k → ∀ x, rowP (bJ ss (k : Int) i) (pl H n) k x = lag gf (ysP text (sizeN text.size k) i) k x := by
    intro i hi x
    refine rowP_of' (lag_poly gfld _ _ k) hcnt (pl_nodup _ _) (fun a ha => by have := (mem_pl.1 ha).1; omega) (fun a ha => ?_) x
    obtain ⟨h1, h2⟩ := mem_pl.1 ha
    unfold bJ
    rw [hus a h1, h2, if_pos rfl, hyes a h1 h2]
    unfold pcs
    rw [byteS_piece1 (by omega) (fun j => pcF_lt _ _ _ _) hi]
    unfold pcF
    rw [gf_of_val]
  refine .inr (.inr (.inr (.inr ⟨?_, ?_, ?_, ?_, ?_, rfl⟩)))
  · unfold rightB; simp; omega
  · intro a ha
    rw [hgood] at ha
    rw [hfirst a ha, hlen]
  · rw [hgood]; exact hcnt
  · intro i hi
    rw [hm] at hi
    unfold fitJ
    rw [hgood]
    intro a ha hu
    show rowP (bJ ss (k : Int) i) (pl H n) k (gf a) = _
    rw [hrow i hi]
    rw [hus a ha] at hu
    unfold bJ
    rw [hus a ha, hu, if_pos rfl, hyes a ha hu]
    unfold pcs
    rw [byteS_piece1 (by omega) (fun j => pcF_lt _ _ _ _) hi]
    unfold pcF
    rw [gf_of_val]
  · rw [hlen, ← bytesOf_self (s := text) rfl]
    rw [bytesOf_size]
    symm
    apply bytesOf_congr
    intro p hp
    have hp2 : p < text.size := hp
    have hmul := size_mul (T := text.size) hk
    have hm0 : 0 < sizeN text.size k := by
      rcases Nat.eq_zero_or_pos (sizeN text.size k) with h0 | h0
      · rw [h0] at hmul; omega
      · exact h0
    have hpk : p / sizeN text.size k < k := by
      rw [Nat.div_lt_iff_lt_mul hm0, Nat.mul_comm]; omega
    unfold textJ
    rw [hm]
    unfold rowJ
    rw [hgood]
    show (rowP _ (pl H n) k _).val = _
    rw [hrow _ (Nat.mod_lt _ hm0), lag_at gfld gf _ hpk (fun i j hi hj hij e => hij (gf_inj (by omega) (by omega) e))]
    unfold ysP datP
    have e : p / sizeN text.size k * sizeN text.size k + p % sizeN text.size k = p := Nat.div_add_mod' _ _
    rw [e, if_pos hp2]
    show byteS text p % 256 = _
    exact Nat.mod_eq_of_lt (byteS_lt _ _)
end Go.Proofs.Ytioecklnijhjgaa
