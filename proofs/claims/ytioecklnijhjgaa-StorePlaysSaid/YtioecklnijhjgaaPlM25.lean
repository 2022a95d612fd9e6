/- The reference's without. -/
import Derived.Test.YtioecklnijhjgaaRef2
import Derived.Test.YtioecklnijhjgaaPlM16
import Derived.Test.YtioecklnijhjgaaPlM19
set_option linter.unusedVariables false
set_option linter.unusedSimpArgs false
namespace Go.Proofs.Ytioecklnijhjgaa
open Go.RowKit

theorem without_clo (x : It) (i key B1 B2 : Nat) (W : World) (c1 : W.cell? ⟨B1, 0, none⟩ = some (.int .i64 (i : Int))) (c2 : W.cell? ⟨B2, 0, none⟩ = some (.int .i64 (key : Int))) :
    Calls Try.prog 66 #[itV x, .pointer (some ⟨B1, 0, none⟩), .pointer (some ⟨B2, 0, none⟩)] W (BoolW (atB i key x) W) := by
  obtain ⟨a, b, c, s⟩ := x
  unfold BoolW
  have hba := below_alloc W (.cells #[.int .i64 (a : Int), .int .i64 (b : Int), .int .i64 (c : Int), .int .i64 0, .string s] 70)
  have e1 := (hba.cell (p := ⟨B1, 0, none⟩) (World.block_lt_of_cell? W _ c1)).trans c1
  have e2 := (hba.cell (p := ⟨B2, 0, none⟩) (World.block_lt_of_cell? W _ c2)).trans c2
  have HB := Lib.hid hba
  clear hba
  by_cases h1 : a = i
  · have t1 : ((a : Int) == (i : Int)) = true := by simp; omega
    by_cases h2 : b = key
    · have t2 : ((b : Int) == (key : Int)) = true := by simp; omega
      have HA : Hid (atB i key (a, b, c, s) = true) := Lib.hid (by unfold atB; simp [h1, h2])
      clear h1 h2
      go_enter Try.func66, Try.ntmps66
      go_wp2_with fail
      go_ret
      exact ⟨by rw [HA.out]; rfl, HB.out⟩
    · have t2 : ((b : Int) == (key : Int)) = false := by simp; omega
      have HA : Hid (atB i key (a, b, c, s) = false) := Lib.hid (by unfold atB; simp [h2])
      clear h1 h2
      go_enter Try.func66, Try.ntmps66
      go_wp2_with fail
      go_ret
      exact ⟨by rw [HA.out]; rfl, HB.out⟩
  · have t1 : ((a : Int) == (i : Int)) = false := by simp; omega
    have HA : Hid (atB i key (a, b, c, s) = false) := Lib.hid (by unfold atB; simp [h1])
    clear h1
    go_enter Try.func66, Try.ntmps66
    go_wp2_with fail
    go_ret
    exact ⟨by rw [HA.out]; rfl, HB.out⟩
theorem deed_clo (x : It) (kind key : Int) (m B : Nat) (text : ByteArray) (W : World) (c2 : W.cell? ⟨B, 2, none⟩ = some (.int .i64 (m : Int))) :
    Calls Try.prog 27 #[itV x, .pointer (some ⟨B, 0, none⟩)] W (BoolW (x.1 == m) W) := by
  obtain ⟨a, b, c, s⟩ := x
  unfold BoolW
  have hba := below_alloc W (.cells #[.int .i64 (a : Int), .int .i64 (b : Int), .int .i64 (c : Int), .int .i64 0, .string s] 70)
  have e2 := (hba.cell (p := ⟨B, 2, none⟩) (World.block_lt_of_cell? W _ c2)).trans c2
  have HB := Lib.hid hba
  clear hba
  by_cases h1 : a = m
  · have t1 : ((a : Int) == (m : Int)) = true := by simp; omega
    have HA : Hid (((a, b, c, s) : It).1 == m) = Hid (true = true) := by simp [h1]
    have HA2 : Hid ((a == m) = true) := Lib.hid (by simp [h1])
    clear h1 HA
    go_enter Try.func27, Try.ntmps27
    go_wp2_with fail
    go_ret
    exact ⟨by rw [show (((a, b, c, s) : It).1 == m) = true from HA2.out]; rfl, HB.out⟩
  · have t1 : ((a : Int) == (m : Int)) = false := by simp; omega
    have HA2 : Hid ((a == m) = false) := Lib.hid (by simp [h1])
    clear h1
    go_enter Try.func27, Try.ntmps27
    go_wp2_with fail
    go_ret
    exact ⟨by rw [show (((a, b, c, s) : It).1 == m) = false from HA2.out]; rfl, HB.out⟩
def WoPost (l : List It) (w : World) (e : Ending) (w' : World) : Prop :=
  ∃ ao cap, e = .returned (.slice ao l.length cap) ∧ w'.ownsRow w.heap.size 70 5 (.slice ao l.length cap) l.length (itCells l) ∧ Below w.heap.size w w'
set_option maxRecDepth 20000 in
set_option maxHeartbeats 1000000 in
theorem ref_without (l : List It) (n : Nat) (ao : Option Addr) (cap i key : Nat) (w : World) (hn : n ≤ 30000000) (hl : l.length = n) (hnone : ao = none → n = 0 ∧ cap = 0) (hR : Hid (Reads w ao (itCells l))) :
    Calls Try.prog 48 #[.slice ao n cap, .int .i64 (i : Int), .int .i64 (key : Int)] w (WoPost (leftI (atB i key) l) w) := by
  obtain ⟨W1, hW1⟩ : ∃ W1, (w.alloc (.cells #[.int .i64 (i : Int)] 3)).alloc (.cells #[.int .i64 (key : Int)] 3) = W1 := ⟨_, rfl⟩
  have hb1 : Below w.heap.size w W1 := by rw [← hW1]; exact (below_alloc _ _).alloc (by simp) _
  have c1 : W1.cell? ⟨w.heap.size, 0, none⟩ = some (.int .i64 (i : Int)) := by
    have h : W1.heap[w.heap.size]? = some (.cells #[.int .i64 (i : Int)] 3 (0, 0)) := by rw [← hW1]; exact heap_alloc_old _ _ (heap_alloc_new w _)
    rw [heap_cell h]; rfl
  have c2 : W1.cell? ⟨w.heap.size + 1, 0, none⟩ = some (.int .i64 (key : Int)) := by
    have h : W1.heap[w.heap.size + 1]? = some (.cells #[.int .i64 (key : Int)] 3 (0, 0)) := by rw [← hW1]; exact heap_new' _ _ _ (by simp)
    rw [heap_cell h]; rfl
  have hz : W1.heap.size = w.heap.size + 2 := by rw [← hW1]; simp
  have CC := Lib.hid (clone_item l n ao cap W1.heap.size W1 hn hl hnone (Lib.hid (hR.out.below hb1)) (Nat.le_refl _))
  unfold RowI at CC
  have CD : Hid (∀ W ao' cap', Below W1.heap.size W1 W → W.ownsRow W1.heap.size 70 5 (.slice ao' n cap') n (itCells l) → Calls Try.prog 25 #[.slice ao' n cap', .func (.func 66) #[] #[.pointer (some ⟨w.heap.size, 0, none⟩), .pointer (some ⟨w.heap.size + 1, 0, none⟩)]] W (RowI W1.heap.size (leftI (atB i key) l) (leftI (atB i key) l).length W)) := Lib.hid fun W ao' cap' hb ho =>
    delete_wo (.pointer (some ⟨w.heap.size, 0, none⟩)) (.pointer (some ⟨w.heap.size + 1, 0, none⟩)) (atB i key) l n ao' cap' W1.heap.size W hl hn ho hb.size (Lib.hid fun x _ W' hb' => without_clo x i key _ _ W' (((hb.trans hb').cell (p := ⟨w.heap.size, 0, none⟩) (show w.heap.size < W1.heap.size by rw [hz]; omega)).trans c1) (((hb.trans hb').cell (p := ⟨w.heap.size + 1, 0, none⟩) (show w.heap.size + 1 < W1.heap.size by rw [hz]; omega)).trans c2))
  unfold RowI at CD
  have HB1 := Lib.hid hb1
  have HZ := Lib.hid hz
  clear hb1 c1 c2 hz hl hnone
  go_enter Try.func48, Try.ntmps48
  go_wp2_with fail
  (with_reducible refine CC.out.mono ?_)
  rintro e w2 ⟨ao2, cap2, rfl, ho2, hb2⟩
  have HO2 := Lib.hid ho2
  have HB2 := Lib.hid hb2
  clear ho2 hb2 CC
  go_wp2_with fail
  (with_reducible refine (CD.out _ _ _ HB2.out HO2.out).mono ?_)
  rintro e w3 ⟨ao3, cap3, rfl, ho3, hb3⟩
  have HO3 := Lib.hid ho3
  have HB3 := Lib.hid hb3
  clear ho3 hb3 CD hW1
  go_wp2_with fail
  go_ret
  exact ⟨ao3, cap3, rfl, own_mono HO3.out (by rw [HZ.out]; omega), HB1.out.trans ((HB2.out.trans HB3.out).mono HB1.out.size)⟩
end Go.Proofs.Ytioecklnijhjgaa
namespace Go.Proofs.Ytioecklnijhjgaa
open Go.RowKit

theorem blk_cell {w w' : World} {g o : Nat} (h : w'.heap[g]? = w.heap[g]?) : w'.cell? ⟨g, o, none⟩ = w.cell? ⟨g, o, none⟩ := by
  simp only [World.cell?, h]
theorem blk_frozen {w w' : World} {g o : Nat} (h : w'.heap[g]? = w.heap[g]?) : w'.frozen? ⟨g, o, none⟩ = w.frozen? ⟨g, o, none⟩ := by
  simp only [World.frozen?, h]
theorem far_cell {w : World} {g j b o : Nat} {v c : Value} (h : b ≠ g) (hc : w.cell? ⟨b, o, none⟩ = some c) : (w.setCell ⟨g, j, none⟩ v).cell? ⟨b, o, none⟩ = some c := by
  rw [World.cell?_setCell_other _ _ _ _ (by intro e; injection e with e1 e2; first | exact h e1 | exact h e1.symm)]; exact hc
theorem far_alloc {w : World} {g j b o : Nat} {v c : Value} {ob : Obj} (h : b ≠ g) (hc : w.cell? ⟨b, o, none⟩ = some c) : ((w.setCell ⟨g, j, none⟩ v).alloc ob).drew.cell? ⟨b, o, none⟩ = some c := by
  have h1 := far_cell (j := j) (v := v) h hc
  exact ((below_alloc (w.setCell ⟨g, j, none⟩ v) ob).cell (p := ⟨b, o, none⟩) (World.block_lt_of_cell? _ _ h1)).trans h1
theorem Kept.cell {Av : Nat → Prop} {base : Nat} {w w' : World} (h : Kept Av base w w') {g o : Nat} {c : Value} (hA : Av g) (hc : w.cell? ⟨g, o, none⟩ = some c) : w'.cell? ⟨g, o, none⟩ = some c := by
  rw [blk_cell (h.blk g hA)]; exact hc
theorem Kept.reads {Av : Nat → Prop} {base : Nat} {w w' : World} (h : Kept Av base w w') {ao : Option Addr} {xs : List Value} (hA : ∀ a, ao = some a → Av a.block) (hR : Reads w ao xs) : Reads w' ao xs := by
  intro j u hu
  obtain ⟨b, o, rfl, hc⟩ := hR j u hu
  exact ⟨b, o, rfl, h.cell (hA _ rfl) hc⟩
theorem Kept.narrow {Av Av' : Nat → Prop} {base : Nat} {w w' : World} (h : Kept Av' base w w') (hs : ∀ x, Av x → Av' x) : Kept Av base w w' := ⟨h.bel, fun g hg => h.blk g (hs g hg)⟩
/-- Beside what was kept: all that lies between two heights. -/
def WideA (Av : Nat → Prop) (lo hi : Nat) (x : Nat) : Prop := Av x ∨ (lo ≤ x ∧ x < hi)
theorem WideA.old {Av : Nat → Prop} {lo hi x : Nat} (h : Av x) : WideA Av lo hi x := .inl h
theorem WideA.new {Av : Nat → Prop} {lo hi x : Nat} (h1 : lo ≤ x) (h2 : x < hi) : WideA Av lo hi x := .inr ⟨h1, h2⟩
theorem Shf.wide {w w' : World} {base : Nat} {Av : Nat → Prop} {n k wr r b nb : Nat} {V : Nat → Nat → Value} {st : St} (h : Shf w base Av n k wr r b nb V st) (hb : Below w.heap.size w w') :
    Shf w' base (WideA Av w.heap.size w'.heap.size) n k wr r b nb V st := by
  have h' := h.below hb
  refine ⟨h'.hb, h'.hst, h'.nodes, h'.row, h'.ap, h'.vb, h'.nbb, fun g hg => ?_, fun i key g hi hk hv hA => ?_, h'.ok⟩
  · rcases hg with hg | hg
    · exact h'.av g hg
    · have h1 := h.blt
      have h2 := h.nodes.lt.2
      exact ⟨hg.2, by omega, by omega⟩
  · rcases hA with hA | hA
    · exact h.avv i key g hi hk hv hA
    · have := ((h.row i key hi hk).lt g hv).2
      omega
theorem Shf.narrow {w : World} {base : Nat} {Av Av' : Nat → Prop} {n k wr r b nb : Nat} {V : Nat → Nat → Value} {st : St} (h : Shf w base Av' n k wr r b nb V st) (hs : ∀ x, Av x → Av' x) :
    Shf w base Av n k wr r b nb V st := ⟨h.hb, h.hst, h.nodes, h.row, h.ap, h.vb, h.nbb, fun g hg => h.av g (hs g hg), fun i key g hi hk hv hA => h.avv i key g hi hk hv (hs g hA), h.ok⟩
/-- What a deed tells, and what it leaves. -/
abbrev tellV (t : Tl) : Value := .agg #[.string t.tx, .int .i64 (t.at' : Int), .int .i64 0, .int .i64 (t.mn : Int)]
abbrev deedV (kind key m : Int) (text : ByteArray) : Value := .agg #[.int .i64 kind, .int .i64 key, .int .i64 m, .string text]
def DoPost (base : Nat) (Av : Nat → Prop) (n k wr r b nb : Nat) (R : St × Tl × Nat) (w : World) (e : Ending) (w' : World) : Prop :=
  e = .returned (.tuple #[tellV R.2.1, .int .i64 (R.2.2 : Nat)]) ∧ (∃ V', Shf w' base Av n k wr r b nb V' R.1) ∧ Kept Av base w w'
theorem Shf.aside {w : World} {base : Nat} {Av : Nat → Prop} {n k wr r b nb : Nat} {V : Nat → Nat → Value} {st : St} (h : Shf w base Av n k wr r b nb V st) {R : Nat} (hR : Av R) (j : Nat) (v : Value) :
    Shf (w.setCell ⟨R, j, none⟩ v) base Av n k wr r b nb V st := by
  have hg := setCell_grown w R j v
  have hne := h.av R hR
  refine ⟨h.hb, ?_, World.ownsRow.kept h.nodes hg (.inr fun e => by injection e with e; exact hne.2.2 e.symm), ?_, h.ap, h.vb, h.nbb, fun g hg2 => ⟨Nat.lt_of_lt_of_le (h.av g hg2).1 hg.size, (h.av g hg2).2⟩, h.avv, h.ok⟩
  · rw [heap_set_far v hne.2.1]; exact h.hst
  · intro i key hi hk
    exact (h.row i key hi hk).kept hg (.inr fun e => h.avv i key R hi hk e hR)
theorem Kept.aside {Av : Nat → Prop} {base : Nat} {w w' : World} (h : Kept Av base w w') {R : Nat} (hR : ∀ g, Av g → g ≠ R) (hb : base ≤ R) (j : Nat) (v : Value) : Kept Av base w (w'.setCell ⟨R, j, none⟩ v) :=
  ⟨below_set h.bel hb v, fun g hg => by rw [heap_set_far v (fun e : R = g => hR g hg e.symm)]; exact h.blk g hg⟩
theorem told_cells {w : World} {R : Nat} {x0 x1 x2 x3 : Value} {t : TypeId} {fr : Nat × Nat} (h : w.heap[R]? = some (.cells #[x0, x1, x2, x3] t fr)) (a b c d : Value) :
    ((((w.setCell ⟨R, 0, none⟩ a).setCell ⟨R, 1, none⟩ b).setCell ⟨R, 2, none⟩ c).setCell ⟨R, 3, none⟩ d).cell? ⟨R, 0, none⟩ = some a ∧
    ((((w.setCell ⟨R, 0, none⟩ a).setCell ⟨R, 1, none⟩ b).setCell ⟨R, 2, none⟩ c).setCell ⟨R, 3, none⟩ d).cell? ⟨R, 1, none⟩ = some b ∧
    ((((w.setCell ⟨R, 0, none⟩ a).setCell ⟨R, 1, none⟩ b).setCell ⟨R, 2, none⟩ c).setCell ⟨R, 3, none⟩ d).cell? ⟨R, 2, none⟩ = some c ∧
    ((((w.setCell ⟨R, 0, none⟩ a).setCell ⟨R, 1, none⟩ b).setCell ⟨R, 2, none⟩ c).setCell ⟨R, 3, none⟩ d).cell? ⟨R, 3, none⟩ = some d := by
  have h2 := heap_set d (j := 3) (heap_set c (j := 2) (heap_set b (j := 1) (heap_set a (j := 0) h)))
  refine ⟨?_, ?_, ?_, ?_⟩ <;> (rw [heap_cell h2]; rfl)
/-- What a call leaves that has written its answer into a block of its own. -/
theorem done4 {base : Nat} {Av Av' : Nat → Prop} {n k wr r b nb : Nat} {V : Nat → Nat → Value} {st : St} {w w' : World} (h : Shf w' base Av' n k wr r b nb V st) (hk : Kept Av base w w') (hs : ∀ x, Av x → Av' x) {R : Nat} (hR : Av' R) (hne : ∀ g, Av g → g ≠ R) (hb : base ≤ R) (x0 x1 x2 x3 : Value) :
    (∃ V', Shf ((((w'.setCell ⟨R, 0, none⟩ x0).setCell ⟨R, 1, none⟩ x1).setCell ⟨R, 2, none⟩ x2).setCell ⟨R, 3, none⟩ x3) base Av n k wr r b nb V' st) ∧ Kept Av base w ((((w'.setCell ⟨R, 0, none⟩ x0).setCell ⟨R, 1, none⟩ x1).setCell ⟨R, 2, none⟩ x2).setCell ⟨R, 3, none⟩ x3) :=
  ⟨⟨V, ((((h.aside hR 0 x0).aside hR 1 x1).aside hR 2 x2).aside hR 3 x3).narrow hs⟩, (((hk.aside hne hb 0 x0).aside hne hb 1 x1).aside hne hb 2 x2).aside hne hb 3 x3⟩
theorem grown_alloc (w : World) (o : Obj) (r : Option Nat) : w.grownBy (w.alloc o) r :=
  ⟨rfl, rfl, rfl, by simp, fun k hk _ => (below_alloc w o).block k hk⟩
theorem putS_ok1 {st : St} (h : Okst st) {a k : Nat} {text : ByteArray} (hs : text.size ≤ 60) (hk : 1 ≤ k) (ha : 1 ≤ a) (ha2 : a ≤ st.wr) (key i : Nat) : Okst (st.set i key [(a, pcs text k i)]) := h.put i key a ha ha2 (pcs_size _ _ _ hs hk)
theorem kp_lit (w : World) (base a : Nat) (p : ByteArray) (hb : base ≤ w.heap.size) : (w.alloc (.cells #[.int .i64 (a : Int), .int .i64 0, .string p] 50)).ownsRow base 50 3 (.slice (some ⟨w.heap.size, 0, none⟩) 1 1) 1 (kpCells [(a, p)]) :=
  ⟨by rfl, .inr ⟨w.heap.size, 1, #[.int .i64 (a : Int), .int .i64 0, .string p], rfl, hb, heap_alloc_new w _, Nat.le_refl _, by unfold maxLen; omega, by rfl, by rfl⟩⟩
/-- put: one node after the other. -/
theorem putS_ok {a k key : Nat} {text : ByteArray} (hs : text.size ≤ 60) (hk : 1 ≤ k) (ha : 1 ≤ a) : ∀ (U : List Nat) (st : St), Okst st → a ≤ st.wr → Okst (U.foldl (putS a k text key) st) ∧ (U.foldl (putS a k text key) st).wr = st.wr ∧ (U.foldl (putS a k text key) st).dn = st.dn
  | [], st, h, _ => ⟨h, rfl, rfl⟩
  | i :: t, st, h, h2 => putS_ok hs hk ha t (putS a k text key st i) (h.put i key a ha h2 (pcs_size _ _ _ hs hk)) h2
end Go.Proofs.Ytioecklnijhjgaa
