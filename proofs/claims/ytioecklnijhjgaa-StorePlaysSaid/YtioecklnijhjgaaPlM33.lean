/- The reference's writeOf. (Printed by wip/tools/gen_ref4.py.) -/
import Derived.Test.YtioecklnijhjgaaPlM26
import Derived.Test.YtioecklnijhjgaaPiece3
import Derived.Test.YtioecklnijhjgaaStore12
import Derived.Deep.RegionHeld
import Derived.Deep.RegionLaw
import Derived.Test.YtioecklnijhjgaaPlM20
import Derived.Test.YtioecklnijhjgaaPlM2
import Derived.MapKept
import Derived.Tactics
import Derived.Test.YtioecklnijhjgaaPlM31
import Derived.Deep.RegionHeld3
set_option linter.unusedVariables false
set_option linter.unusedSimpArgs false
namespace Go.Proofs.Ytioecklnijhjgaa
open Go.RowKit

noncomputable def wrF (n k wr : Nat) (st : St) (kind : Int) (key : Nat) (m : Int) (text : ByteArray) : St × Tl × Nat := if kind = 2 then tornF n k wr st key m text else putF n k wr st key text
theorem wrF_err {n k wr : Nat} {st : St} {kind : Int} {key : Nat} {m : Int} {text : ByteArray} (h : splE n wr st text ≠ 0) : wrF n k wr st kind key m text = (st, Tl.no, splE n wr st text) := by
  unfold wrF
  split
  · unfold tornF; rw [if_pos h]
  · unfold putF; rw [if_pos h]
theorem addI_snoc (key a k : Nat) (text : ByteArray) {U : List Nat} {j i : Nat} (l : List It) (h : U[j]? = some i) : addI key a k text (U.take (j + 1)) l = addI key a k text (U.take j) l ++ [(i, key, a, pcs text k i)] := by
  unfold addI
  rw [take_snocN h, List.map_append, List.append_assoc]
  rfl
theorem own_setJ {w : World} {base e size : Nat} {v : Value} {n : Nat} {xs : List Value} (h : w.ownsRow base e size v n xs) {B j : Nat} (hB : B < base) (u : Value) : (w.setCell ⟨B, j, none⟩ u).ownsRow base e size v n xs := by
  refine ⟨h.1, ?_⟩
  rcases h.2 with hn | ⟨g, cap, cur, rfl, hbg, hg, rest⟩
  · exact .inl hn
  · exact .inr ⟨g, cap, cur, rfl, hbg, by rw [heap_set_far _ (by omega)]; exact hg, rest⟩
theorem own_four {w : World} {base e size : Nat} {v : Value} {n : Nat} {xs : List Value} (h : w.ownsRow base e size v n xs) {B : Nat} (hB : B < base) (a0 a1 a2 a3 : Value) :
    ((((w.setCell ⟨B, 0, none⟩ a0).setCell ⟨B, 1, none⟩ a1).setCell ⟨B, 2, none⟩ a2).setCell ⟨B, 3, none⟩ a3).ownsRow base e size v n xs :=
  own_setJ (own_setJ (own_setJ (own_setJ h hB _) hB _) hB _) hB _
theorem own_seven {w : World} {base e size : Nat} {v : Value} {n : Nat} {xs : List Value} (h : w.ownsRow base e size v n xs) {A : Nat} (hA : A < base) (a0 a1 a2 a3 a4 a5 a6 : Value) :
    (((((((w.setCell ⟨A, 0, none⟩ a0).setCell ⟨A, 1, none⟩ a1).setCell ⟨A, 2, none⟩ a2).setCell ⟨A, 3, none⟩ a3).setCell ⟨A, 4, none⟩ a4).setCell ⟨A, 5, none⟩ a5).setCell ⟨A, 6, none⟩ a6).ownsRow base e size v n xs :=
  own_setJ (own_setJ (own_setJ (own_setJ (own_setJ (own_setJ (own_setJ h hA _) hA _) hA _) hA _) hA _) hA _) hA _
theorem rd_fin {w : World} {base e size : Nat} {ao : Option Addr} {n cap : Nat} {xs : List Value} (h : w.ownsRow base e size (.slice ao n cap) n xs) : Reads w.drew ao xs ∧ (ao = none → n = 0 ∧ cap = 0) ∧ ∀ a, ao = some a → base ≤ a.block ∧ a.block < w.heap.size := by
  obtain ⟨a', c', hv, hr, hn, _⟩ := own_reads h
  cases hv
  exact ⟨hr, hn, fun a ha => h.lt a.block (by rw [ha]; rfl)⟩
theorem addI_len (key a k : Nat) (text : ByteArray) (U : List Nat) (l : List It) : (addI key a k text U l).length = l.length + U.length := by
  unfold addI; rw [List.length_append, List.length_map]
theorem Shl.put {n D k key : Nat} {All : List It} {st : St} {text : ByteArray} (h : Shl n D All st) (hs : text.size ≤ 60) (hk : 1 ≤ k) (hkey : key < 3) (hw : st.wr ≠ 1000000) :
    Shl n D (addI key (st.wr + 1) k text (ups n st) (goneI key (ups n st) All)) ((ups n st).foldl (putS (st.wr + 1) k text key) st.up1) := by
  refine ⟨fun i key' hi hk' => ?_, fun i hi => by rw [putS_dn']; exact h.dn i hi, h.d, fun x hx => ?_, ?_⟩
  · have hnd : (ups n st).Nodup := pl_nodup _ _
    rw [addI_kept _ _ _ _ _ hnd, goneI_kept, putS_kp]
    by_cases hh : i ∈ ups n st ∧ key' = key
    · rw [if_pos hh, if_pos hh, if_pos hh]; rfl
    · rw [if_neg hh, if_neg hh, if_neg hh, List.append_nil]
      exact h.kp i key' hi hk'
  · unfold addI at hx
    rcases List.mem_append.1 hx with hx | hx
    · exact h.it x (goneI_mem _ _ _ _ hx)
    · obtain ⟨i, hi, rfl⟩ := List.mem_map.1 hx
      exact ⟨(mem_ups.1 hi).1, hkey⟩
  · exact (putS_ok (a := st.wr + 1) (k := k) (key := key) hs hk (by omega) (ups n st) st.up1 (h.ok.up1 hw) (Nat.le_refl _)).1
theorem Shl.torn {n D k key : Nat} {All : List It} {st : St} {text : ByteArray} (h : Shl n D All st) (hs : text.size ≤ 60) (hk : 1 ≤ k) (hkey : key < 3) (hw : st.wr ≠ 1000000) (UM : List Nat) (hu : UM.Nodup) (hn : ∀ i ∈ UM, i < n) :
    Shl n D (addI key (st.wr + 1) k text UM All) (UM.foldl (tornS (st.wr + 1) k text key) st.up1) := by
  refine ⟨fun i key' hi hk' => ?_, fun i hi => by rw [tornS_dn]; exact h.dn i hi, h.d, fun x hx => ?_, ?_⟩
  · rw [addI_kept _ _ _ _ _ hu, tornS_kp _ hu, h.kp i key' hi hk']; rfl
  · unfold addI at hx
    rcases List.mem_append.1 hx with hx | hx
    · exact h.it x hx
    · obtain ⟨i, hi, rfl⟩ := List.mem_map.1 hx
      exact ⟨hn i hi, hkey⟩
  · exact (tornS_ok (a := st.wr + 1) (k := k) (key := key) hs hk (by omega) UM st.up1 hu (h.ok.up1 hw) (Nat.le_refl _) (fun i _ x hx => by
      have := (h.ok.rng i key x hx).2.1
      omega)).1
end Go.Proofs.Ytioecklnijhjgaa
namespace Go.Proofs.Ytioecklnijhjgaa
open Go.RowKit

theorem bit_dec (D i : Nat) : decide (D / 2 ^ i % 2 = 1) = D.testBit i := (Nat.testBit_eq_decide_div_mod_eq).symm
theorem two_lt {m : Nat} (h : m < 16) : 2 ^ m < 65536 := Nat.pow_lt_pow_right (by omega) h
theorem Shl.down {n D : Nat} {All : List It} {st : St} (h : Shl n D All st) {m : Nat} (hm : m < 16) : Shl n (D ||| 2 ^ m) All (st.down m true) := by
  refine ⟨h.kp, fun i hi => ?_, Nat.or_lt_two_pow (n := 16) h.d (two_lt hm), h.it, h.ok.down m true⟩
  show (if i = m then true else st.dn i) = _
  rw [bit_dec, Nat.testBit_or, Nat.testBit_two_pow, ← bit_dec, ← h.dn i hi]
  by_cases he : i = m
  · rw [if_pos he, he]; simp
  · rw [if_neg he]
    have : decide (m = i) = false := by simpa using fun e : m = i => he e.symm
    rw [this, Bool.or_false]
theorem Shl.upn {n D : Nat} {All : List It} {st : St} (h : Shl n D All st) {m : Nat} (hm : m < 16) : Shl n (D ^^^ (D &&& 2 ^ m)) All (st.down m false) := by
  refine ⟨h.kp, fun i hi => ?_, Nat.xor_lt_two_pow (n := 16) h.d (Nat.and_lt_two_pow (n := 16) _ (two_lt hm)), h.it, h.ok.down m false⟩
  show (if i = m then false else st.dn i) = _
  rw [bit_dec, Nat.testBit_xor, Nat.testBit_and, Nat.testBit_two_pow, ← bit_dec, ← h.dn i hi]
  by_cases he : i = m
  · rw [if_pos he, he]; simp
  · rw [if_neg he]
    have : decide (m = i) = false := by simpa using fun e : m = i => he e.symm
    rw [this, Bool.and_false, Bool.xor_false]
theorem u16_andNot_nat (a b : Nat) (ha : a < 65536) (hb : b < 65536) : bits .andNot .u16 (a : Int) (b : Int) = ((a ^^^ (a &&& b) : Nat) : Int) := by
  have hx : a ^^^ (a &&& b) < 2 ^ 16 := Nat.xor_lt_two_pow (by omega) (Nat.and_lt_two_pow _ (by omega))
  have e : (BitVec.ofInt 16 (a : Int) &&& ~~~ BitVec.ofInt 16 (b : Int)).toNat = a ^^^ (a &&& b) := by
    have h1 := ofInt_u16 a ha
    have h2 := ofInt_u16 b hb
    apply Nat.eq_of_testBit_eq
    intro i
    have g1 : a.testBit i = (BitVec.ofInt 16 (a : Int)).getLsbD i := by rw [← BitVec.testBit_toNat, h1]
    have g2 : b.testBit i = (BitVec.ofInt 16 (b : Int)).getLsbD i := by rw [← BitVec.testBit_toNat, h2]
    rw [Nat.testBit_xor, Nat.testBit_and, BitVec.testBit_toNat, BitVec.getLsbD_and, BitVec.getLsbD_not, g1, g2]
    clear g1 g2 h1 h2
    obtain ⟨p, hp⟩ : ∃ p, (BitVec.ofInt 16 (a : Int)).getLsbD i = p := ⟨_, rfl⟩
    obtain ⟨q, hq⟩ : ∃ q, (BitVec.ofInt 16 (b : Int)).getLsbD i = q := ⟨_, rfl⟩
    by_cases hi : i < 16
    · rw [hp, hq, decide_eq_true hi]
      cases p <;> cases q <;> rfl
    · rw [BitVec.getLsbD_of_ge _ _ (by omega : 16 ≤ i)]
      simp
  show IntKind.u16.wrap ((BitVec.ofInt 16 (a : Int) &&& ~~~ BitVec.ofInt 16 (b : Int)).toNat : Int) = _
  rw [e]
  exact wrap_u16 _ (by omega)
/-- A node loses all: what is left of the list. -/
theorem Shl.lose {n D : Nat} {All : List It} {st : St} (h : Shl n D All st) (m : Nat) : Shl n D (All.filter (fun x => !(x.1 == m))) (st.lose m) := by
  refine ⟨fun i key hi hk => ?_, h.dn, h.d, fun x hx => h.it x (List.mem_filter.1 hx).1, h.ok.lose m⟩
  show _ = (if i = m then [] else st.kp i key)
  unfold keptAt
  rw [List.filter_filter]
  by_cases he : i = m
  · rw [if_pos he, List.filter_eq_nil_iff.2 (by
      intro x _
      unfold atB
      simp
      omega)]
    rfl
  · rw [if_neg he, ← h.kp i key hi hk]
    unfold keptAt
    congr 1
    apply List.filter_congr
    intro x _
    rw [Bool.eq_iff_iff]
    unfold atB
    simp
    omega
end Go.Proofs.Ytioecklnijhjgaa
namespace Go.Proofs.Ytioecklnijhjgaa
open Go.RowKit

theorem run_put {P : Program} {w : World} {mty kt et : TypeId} {d : TypeDesc} {r clock : Nat} {es : Array MapEntry} {key val : Value} (hm : P.underlying mty = some (.map kt et)) (hk : P.underlying kt = some d) (hd : MapKept.IsKey d key) (hb : w.heap[r]? = some (.map es clock)) (hf : Instr.findNow d key es.toList 0 = some none) :
    (Instr.mapUpdate mty (.map (some r)) key val).run P w = .ok () { w with heap := w.heap.setIfInBounds r (.map (es.push { key := key, val := val, born := clock }) (clock + 1)) } := by
  have hc : (Instr.checkKey false 10000 kt key).run P w = .ok () w := MapKept.run_checkKey (k := key) hk hd false 9999
  simp [Instr.mapUpdate, run_underlying hm, MapKept.run_getObj_map hb, hc, MapKept.run_findKey hk hf, MapKept.run_setObj_map _ hb, Result.andThen]
theorem run_get {P : Program} {w : World} {mty kt et : TypeId} {d : TypeDesc} {r clock i : Nat} {es : Array MapEntry} {key v : Value} (hm : P.underlying mty = some (.map kt et)) (hk : P.underlying kt = some d) (hd : MapKept.IsKey d key) (hb : w.heap[r]? = some (.map es clock)) (hf : Instr.findNow d key es.toList 0 = some (some (i, v))) :
    (Instr.lookup mty (.map (some r)) key false).run P w = .ok v w := by
  have hc : (Instr.checkKey es.isEmpty 10000 kt key).run P w = .ok () w := MapKept.run_checkKey (k := key) hk hd _ 9999
  simp [Instr.lookup, run_underlying hm, MapKept.run_getObj_map hb, hc, MapKept.run_findKey hk hf, Result.andThen]
theorem run_get_no {P : Program} {w : World} {mty kt et : TypeId} {d : TypeDesc} {r clock : Nat} {es : Array MapEntry} {key z : Value} (hm : P.underlying mty = some (.map kt et)) (hk : P.underlying kt = some d) (hd : MapKept.IsKey d key) (hb : w.heap[r]? = some (.map es clock)) (hf : Instr.findNow d key es.toList 0 = some none)
    (hz : (zeroValue et).run P w = .ok z w) :
    (Instr.lookup mty (.map (some r)) key false).run P w = .ok z w := by
  have hc : (Instr.checkKey es.isEmpty 10000 kt key).run P w = .ok () w := MapKept.run_checkKey (k := key) hk hd _ 9999
  simp [Instr.lookup, run_underlying hm, MapKept.run_getObj_map hb, hc, MapKept.run_findKey hk hf, hz, Result.andThen]
def mapW (w : World) (r : Nat) (o : Obj) : World := { w with heap := w.heap.setIfInBounds r o }
theorem mapW_at {w : World} {r : Nat} {o o' : Obj} (h : w.heap[r]? = some o) : (mapW w r o').heap[r]? = some o' := (MapKept.heap_set h).1
theorem mapW_below {w w0 : World} {r B : Nat} {o : Obj} (h : Below B w0 w) (hB : B ≤ r) : Below B w0 (mapW w r o) :=
  ⟨h.os, h.tape, h.output, by show w0.heap.size ≤ (w.heap.setIfInBounds r o).size; rw [Array.size_setIfInBounds]; exact h.size, fun k hk => by
    show (w.heap.setIfInBounds r o)[k]? = _
    rw [Array.getElem?_setIfInBounds_ne (by omega)]; exact h.block k hk⟩
theorem put_ex {P : Program} {w w0 : World} {mty kt et : TypeId} {d : TypeDesc} {r clock B : Nat} {es : Array MapEntry} {key val : Value} (hm : P.underlying mty = some (.map kt et)) (hk : P.underlying kt = some d) (hd : MapKept.IsKey d key) (hb : w.heap[r]? = some (.map es clock)) (hf : Instr.findNow d key es.toList 0 = some none) (hB : Below B w0 w) (hr : B ≤ r) :
    ∃ w', (Instr.mapUpdate mty (.map (some r)) key val).run P w = .ok () w' ∧ w'.heap[r]? = some (.map (es.push { key := key, val := val, born := clock }) (clock + 1)) ∧ Below B w0 w' :=
  ⟨mapW w r (.map (es.push { key := key, val := val, born := clock }) (clock + 1)), run_put hm hk hd hb hf, mapW_at hb, mapW_below hB hr⟩
abbrev five : List Int := [1, 2, 3, 7, 8]
def keyB (kind : Int) : Bool := kind == 1 || kind == 2 || kind == 3 || kind == 7 || kind == 8
theorem keyed_map {P : Program} {mty kt et : TypeId} (hm : P.underlying mty = some (.map kt et)) (hk : P.underlying kt = some (.int .i64)) (hz : ∀ w, (zeroValue et).run P w = .ok (.bool false) w) (W : World) (kind : Int) :
    ∃ w1 w2 w3 w4 w5 : World,
      (Instr.mapUpdate mty (.map (some W.heap.size)) (.int .i64 1) (.bool true)).run P (W.alloc (.map #[] 0)) = .ok () w1 ∧
      (Instr.mapUpdate mty (.map (some W.heap.size)) (.int .i64 2) (.bool true)).run P w1 = .ok () w2 ∧
      (Instr.mapUpdate mty (.map (some W.heap.size)) (.int .i64 3) (.bool true)).run P w2 = .ok () w3 ∧
      (Instr.mapUpdate mty (.map (some W.heap.size)) (.int .i64 7) (.bool true)).run P w3 = .ok () w4 ∧
      (Instr.mapUpdate mty (.map (some W.heap.size)) (.int .i64 8) (.bool true)).run P w4 = .ok () w5 ∧
      (Instr.lookup mty (.map (some W.heap.size)) (.int .i64 kind) false).run P w5 = .ok (.bool (keyB kind)) w5 ∧ Below W.heap.size W w5 := by
  have ik : ∀ x, MapKept.IsKey (.int .i64) (.int .i64 x) := fun x => by simp [MapKept.IsKey]
  have h0 : (W.alloc (.map #[] 0)).heap[W.heap.size]? = some (.map #[] 0) := heap_alloc_new W _
  have b0 : Below W.heap.size W (W.alloc (.map #[] 0)) := (Below.refl _ _).alloc (Nat.le_refl _) _
  obtain ⟨w1, r1, h1, b1⟩ := put_ex (val := .bool true) hm hk (ik 1) h0 (by rfl) b0 (Nat.le_refl _)
  obtain ⟨w2, r2, h2, b2⟩ := put_ex (val := .bool true) hm hk (ik 2) h1 (by rfl) b1 (Nat.le_refl _)
  obtain ⟨w3, r3, h3, b3⟩ := put_ex (val := .bool true) hm hk (ik 3) h2 (by rfl) b2 (Nat.le_refl _)
  obtain ⟨w4, r4, h4, b4⟩ := put_ex (val := .bool true) hm hk (ik 7) h3 (by rfl) b3 (Nat.le_refl _)
  obtain ⟨w5, r5, h5, b5⟩ := put_ex (val := .bool true) hm hk (ik 8) h4 (by rfl) b4 (Nat.le_refl _)
  refine ⟨w1, w2, w3, w4, w5, r1, r2, r3, r4, r5, ?_, b5⟩
  by_cases e1 : kind = 1
  · subst e1; exact run_get hm hk (ik _) h5 (by rfl)
  by_cases e2 : kind = 2
  · subst e2; exact run_get hm hk (ik _) h5 (by rfl)
  by_cases e3 : kind = 3
  · subst e3; exact run_get hm hk (ik _) h5 (by rfl)
  by_cases e7 : kind = 7
  · subst e7; exact run_get hm hk (ik _) h5 (by rfl)
  by_cases e8 : kind = 8
  · subst e8; exact run_get hm hk (ik _) h5 (by rfl)
  have hK : keyB kind = false := by unfold keyB; simp [e1, e2, e3, e7, e8]
  rw [hK]
  refine run_get_no hm hk (ik _) h5 ?_ (hz _)
  have f1 : (kind == 1) = false := by simpa using e1
  have f2 : (kind == 2) = false := by simpa using e2
  have f3 : (kind == 3) = false := by simpa using e3
  have f7 : (kind == 7) = false := by simpa using e7
  have f8 : (kind == 8) = false := by simpa using e8
  simp [Instr.findNow, Instr.sameNow, f1, f2, f3, f7, f8]
end Go.Proofs.Ytioecklnijhjgaa
namespace Go.Proofs.Ytioecklnijhjgaa
open Go.RowKit

theorem fin_far {wq W : World} {A B : Nat} {al : Option Addr} {FU : List It} {T T' : TypeId} (hz : wq.heap[A]? = some (.cells #[.int .i64 0, .int .i64 0, .int .i64 0, .int .i64 0, .int .u16 0, .int .i64 0, .slice none 0 0] T (0, 0))) (ht : wq.heap[B]? = some (.cells #[.string ⟨#[]⟩, .int .i64 0, .int .i64 0, .int .i64 0] T' (0, 0))) (hRl : Reads wq al (itCells FU))
    (hfar : ∀ b o c, b ≠ A → b ≠ B → wq.cell? ⟨b, o, none⟩ = some c → W.cell? ⟨b, o, none⟩ = some c) : Reads W al (itCells FU) := by
  cases FU with
  | nil => intro q v hv; simp [itCells] at hv
  | cons x t =>
    have h4 := itCells_get (l := x :: t) (j := 0) (x := x) rfl 4 (by omega)
    obtain ⟨b, o, hb, hc⟩ := hRl (0 * 5 + 4) (.string x.2.2.2) (by rw [h4]; rfl)
    have hbA : b ≠ A := by
      intro e
      rw [e, heap_cell hz] at hc
      match o, hc with
      | 0, hc => simp at hc
      | 1, hc => simp at hc
      | 2, hc => simp at hc
      | q + 3, hc => simp at hc
    have hbB : b ≠ B := by
      intro e
      rw [e, heap_cell ht] at hc
      simp at hc
    intro q v hv
    obtain ⟨b', o', hb', hc'⟩ := hRl q v hv
    rw [hb] at hb'
    cases hb'
    exact ⟨b, o, hb, hfar _ _ _ hbA hbB hc'⟩
theorem doF_bad {n k wr r : Nat} {st : St} {kind key m : Int} {text : ByteArray} (h : kind < 1 ∨ 8 < kind ∨ (keyB kind = true ∧ (key < 0 ∨ 2 < key))) : doF n k wr r st kind key m text = (st, Tl.no, 1) := by
  unfold doF
  rw [if_pos]
  rcases h with h | h | h
  · exact .inl h
  · exact .inr (.inl h)
  · refine .inr (.inr ⟨?_, h.2⟩)
    have h1 := h.1
    unfold keyB at h1
    unfold keyedB
    simp at h1 ⊢
    omega
end Go.Proofs.Ytioecklnijhjgaa
