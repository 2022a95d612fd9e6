/- What getOf leaves: plain laws of the list. -/
import Derived.Test.YtioecklnijhjgaaPlM26
import Derived.Test.YtioecklnijhjgaaStore5
import Derived.Test.YtioecklnijhjgaaPlM25
import Derived.Test.YtioecklnijhjgaaPlM17
import Derived.Test.YtioecklnijhjgaaPlM22
import Derived.Test.YtioecklnijhjgaaPlM20
import Derived.Deep.RegionHeld
import Derived.Deep.RegionLaw
set_option linter.unusedVariables false
set_option linter.unusedSimpArgs false
namespace Go.Proofs.Ytioecklnijhjgaa
open Go.RowKit

theorem keptAt_append (l m : List It) (i key : Nat) : keptAt (l ++ m) i key = keptAt l i key ++ keptAt m i key := by
  unfold keptAt
  rw [List.filter_append, List.map_append]
theorem keptAt_map (i key : Nat) (l : List Kp) (i' key' : Nat) : keptAt (l.map fun x => (i, key, x)) i' key' = if i' = i ∧ key' = key then l else [] := by
  unfold keptAt
  by_cases h : i' = i ∧ key' = key
  · rw [if_pos h, h.1, h.2, List.filter_eq_self.2 (by
      intro x hx
      obtain ⟨y, _, rfl⟩ := List.mem_map.1 hx
      simp [atB]), List.map_map]
    exact List.map_id' _
  · rw [if_neg h, List.filter_eq_nil_iff.2 (by
      intro x hx
      obtain ⟨y, _, rfl⟩ := List.mem_map.1 hx
      unfold atB
      simp
      omega)]
    rfl
def fixI (k : Nat) (text : ByteArray) (a key : Nat) (l : List It) (i : Nat) : List It := leftI (atB i key) l ++ (fixK a (pcs text k i) (keptAt l i key)).map fun x => (i, key, x)
theorem fixI_kept (k : Nat) (text : ByteArray) (a key : Nat) (l : List It) (i i' key' : Nat) : keptAt (fixI k text a key l i) i' key' = if i' = i ∧ key' = key then fixK a (pcs text k i) (keptAt l i key) else keptAt l i' key' := by
  unfold fixI
  rw [keptAt_append, keptAt_left, keptAt_map]
  by_cases h : i' = i ∧ key' = key
  · rw [if_pos h, if_pos h, if_pos h]; rfl
  · rw [if_neg h, if_neg h, if_neg h, List.append_nil]
theorem Shl.fix {n D k key a : Nat} {All : List It} {st : St} {text : ByteArray} (h : Shl n D All st) (hs : text.size ≤ 60) (hk : 1 ≤ k) (hkey : key < 3) (ha : 1 ≤ a) (ha2 : a ≤ st.wr) {i : Nat} (hi : i < n) (m : Nat) :
    Shl n D (fixI k text a key All i) (fixS k text a key (st, m) i).1 := by
  refine ⟨fun i' key' hi' hk' => ?_, h.dn, h.d, fun x hx => ?_, h.ok.fix i key a ha ha2 (pcs_size _ _ _ hs hk)⟩
  · rw [fixI_kept]
    show _ = (st.set i key (fixK a (pcs text k i) (st.kp i key))).kp i' key'
    by_cases hh : i' = i ∧ key' = key
    · rw [if_pos hh, hh.1, hh.2, St.set_at, h.kp i key hi hkey]
    · rw [if_neg hh, St.set_far _ _ (by omega)]; exact h.kp i' key' hi' hk'
  · unfold fixI at hx
    rcases List.mem_append.1 hx with hx | hx
    · exact h.it x (leftI_mem hx)
    · obtain ⟨y, _, rfl⟩ := List.mem_map.1 hx
      exact ⟨hi, hkey⟩
/-- All nodes that are up, one after the other: the list and the store agree behind each. -/
theorem Shl.fixes {n D k key a : Nat} {text : ByteArray} (hs : text.size ≤ 60) (hk : 1 ≤ k) (hkey : key < 3) (ha : 1 ≤ a) : ∀ (U : List Nat) (_ : ∀ i ∈ U, i < n) (All : List It) (P : St × Nat), Shl n D All P.1 → a ≤ P.1.wr →
    Shl n D (U.foldl (fixI k text a key) All) (U.foldl (fixS k text a key) P).1
  | [], _, _, _, h, _ => h
  | i :: t, hu, All, (st, m), h, h2 => Shl.fixes hs hk hkey ha t (fun j hj => hu j (by simp [hj])) (fixI k text a key All i) (fixS k text a key (st, m) i) (h.fix hs hk hkey ha h2 (hu i (by simp)) m) h2
/-- The last piece of a stamp is the first. -/
theorem pick_last {l : List Kp} (h : l.Pairwise (fun x y => x.1 < y.1)) {j : Nat} {x : Kp} (hx : l[j]? = some x) : pick l x.1 = x.2 := by
  have : l.find? (fun y => y.1 == x.1) = some x := by
    induction l generalizing j with
    | nil => simp at hx
    | cons y t ih =>
      have h2 := List.pairwise_cons.1 h
      cases j with
      | zero => simp at hx; subst hx; simp
      | succ j =>
        have hx2 : t[j]? = some x := by simpa using hx
        have hlt := h2.1 x (List.mem_of_getElem? hx2)
        rw [List.find?_cons, show (y.1 == x.1) = false by rw [beq_eq_false_iff_ne]; omega]
        exact ih h2.2 hx2
  unfold pick
  rw [this]
end Go.Proofs.Ytioecklnijhjgaa
namespace Go.Proofs.Ytioecklnijhjgaa
open Go.RowKit

theorem Shf.congr {w : World} {base : Nat} {Av : Nat → Prop} {n k wr r b nb : Nat} {V : Nat → Nat → Value} {st st' : St} (h : Shf w base Av n k wr r b nb V st) (h1 : ∀ i key, i < n → key < 3 → st'.kp i key = st.kp i key) (h2 : ∀ i, i < n → st'.dn i = st.dn i) (h3 : st'.wr = st.wr) (hok : Okst st') :
    Shf w base Av n k wr r b nb V st' :=
  ⟨h.hb, by rw [h3]; exact h.hst, h.nodes.congr fun j hj => by unfold nodeF; rw [h2 (j / 4) (by omega)], fun i key hi hk => by rw [h1 i key hi hk]; exact h.row i key hi hk, h.ap, h.vb, h.nbb, h.av, h.avv, hok⟩
theorem Shf.poke {w w1 : World} {base : Nat} {Av : Nat → Prop} {n k wr r b nb : Nat} {V : Nat → Nat → Value} {st : St} (h : Shf w base Av n k wr r b nb V st) {i key : Nat} (hi : i < n) (hk : key < 3)
    {l : List Kp} (hg : w.grownBy w1 (V i key).ownBlock) (hown : w1.ownsRow base 50 3 (V i key) l.length (kpCells l)) (hok : Okst (st.set i key l)) :
    Shf w1 base Av n k wr r b nb V (st.set i key l) ∧ Kept Av base w w1 := by
  have hbl := h.nodes.lt
  have hbb := h.blt
  have hbase : base ≤ w.heap.size := Nat.le_trans h.hb (Nat.le_of_lt hbb)
  have hvi := h.vb i key hi hk
  have hri := (h.row i key hi hk).lt
  have hN1 : Own w1 base 77 nb (n * 4) (n * 4) (nodeF st.dn V) := World.ownsRow.kept h.nodes hg (.inr fun e => hvi.2 e.symm)
  refine ⟨⟨h.hb, heap_grown_old hg h.hst (fun e => hvi.1 e.symm), hN1, ?_, h.ap, h.vb, h.nbb, fun g hg2 => ⟨Nat.lt_of_lt_of_le (h.av g hg2).1 hg.size, (h.av g hg2).2⟩, h.avv, hok⟩, ?_⟩
  · intro j key' hj hk'
    by_cases he : j = i ∧ key' = key
    · rw [he.1, he.2, St.set_at]; exact hown
    · rw [St.set_far _ _ (by omega)]
      refine (h.row j key' hj hk').kept hg ?_
      cases hu : (V j key').ownBlock with
      | none => exact .inl rfl
      | some g => exact .inr fun e => h.ap i key j key' hi hk hj hk' (by omega) g e.symm hu
  · refine ⟨(Below.refl base w).grown hg hbase fun g hg => (hri g hg).1, fun g hA => hg.block g (h.av g hA).1 (fun e => h.avv i key g hi hk e.symm hA)⟩
theorem Shf.put_nil {w : World} {base : Nat} {Av : Nat → Prop} {n k wr r b nb : Nat} {V : Nat → Nat → Value} {st : St} (h : Shf w base Av n k wr r b nb V st) {i key : Nat} (hi : i < n) (hk : key < 3) :
    Shf (w.setCell ⟨nb, i * 4 + 1 + key, none⟩ (.slice none 0 0)) base Av n k wr r b nb (setV V i key (.slice none 0 0)) (st.set i key []) ∧ Kept Av base w (w.setCell ⟨nb, i * 4 + 1 + key, none⟩ (.slice none 0 0)) := by
  have hS := h.nodes.store (i * 4 + 1 + key) (.slice none 0 0)
  have hbl := h.nodes.lt
  refine ⟨⟨h.hb, ?_, hS.1.congr fun j _ => nodeF_set _ _ _ _ _ hk _, ?_, ?_, ?_, h.nbb, fun g hg2 => ⟨Nat.lt_of_lt_of_le (h.av g hg2).1 hS.2.size, (h.av g hg2).2⟩, ?_, h.ok.set i key List.Pairwise.nil (fun x hx => by simp at hx)⟩, below_set (Below.refl _ _) hbl.1 _, fun g hA => ?_⟩
  · rw [heap_set_far _ (fun e : nb = b => h.nbb e.symm)]; exact h.hst
  · intro j key' hj hk'
    by_cases he : j = i ∧ key' = key
    · rw [he.1, he.2, setV_at, St.set_at]; exact World.ownsRow_nil _ _ _ _
    · rw [setV_far _ _ (by omega), St.set_far _ _ (by omega)]
      exact (h.row j key' hj hk').kept hS.2 (.inr (h.vb j key' hj hk').2)
  · intro j key' j2 key2 hj hk' hj2 hk2 hne g hg1 hg2
    by_cases he : j = i ∧ key' = key
    · rw [he.1, he.2, setV_at] at hg1; cases hg1
    · rw [setV_far _ _ (by omega)] at hg1
      by_cases he2 : j2 = i ∧ key2 = key
      · rw [he2.1, he2.2, setV_at] at hg2; cases hg2
      · rw [setV_far _ _ (by omega)] at hg2
        exact h.ap j key' j2 key2 hj hk' hj2 hk2 hne g hg1 hg2
  · intro j key' hj hk'
    by_cases he : j = i ∧ key' = key
    · rw [he.1, he.2, setV_at]; exact ⟨(by intro e; cases e), (by intro e; cases e)⟩
    · rw [setV_far _ _ (by omega)]; exact h.vb j key' hj hk'
  · intro j key' g hj hk' hgv
    by_cases he : j = i ∧ key' = key
    · rw [he.1, he.2, setV_at] at hgv; cases hgv
    · rw [setV_far _ _ (by omega)] at hgv; exact h.avv j key' g hj hk' hgv
  · rw [heap_set_far _ (fun e : nb = g => (h.av g hA).2.2 e.symm)]
/-- A node loses all that it keeps. -/
theorem Shf.put_lose {w : World} {base : Nat} {Av : Nat → Prop} {n k wr r b nb : Nat} {V : Nat → Nat → Value} {st : St} (h : Shf w base Av n k wr r b nb V st) {i : Nat} (hi : i < n) :
    (∃ V', Shf (((w.setCell ⟨nb, i * 4 + 1, none⟩ (.slice none 0 0)).setCell ⟨nb, i * 4 + 1 + 1, none⟩ (.slice none 0 0)).setCell ⟨nb, i * 4 + 1 + 2, none⟩ (.slice none 0 0)) base Av n k wr r b nb V' (st.lose i)) ∧
    Kept Av base w (((w.setCell ⟨nb, i * 4 + 1, none⟩ (.slice none 0 0)).setCell ⟨nb, i * 4 + 1 + 1, none⟩ (.slice none 0 0)).setCell ⟨nb, i * 4 + 1 + 2, none⟩ (.slice none 0 0)) := by
  have h1 := h.put_nil hi (show 0 < 3 by omega)
  have h2 := h1.1.put_nil hi (show 1 < 3 by omega)
  have h3 := h2.1.put_nil hi (show 2 < 3 by omega)
  refine ⟨⟨_, h3.1.congr (fun j key hj hk => ?_) (fun _ _ => rfl) rfl (h.ok.lose i)⟩, h1.2.trans (h2.2.trans h3.2)⟩
  show (if j = i then [] else st.kp j key) = _
  by_cases hj2 : j = i
  · rw [if_pos hj2, hj2]
    have hk3 : key = 0 ∨ key = 1 ∨ key = 2 := by omega
    rcases hk3 with rfl | rfl | rfl
    · rw [St.set_far _ _ (by omega), St.set_far _ _ (by omega), St.set_at]
    · rw [St.set_far _ _ (by omega), St.set_at]
    · rw [St.set_at]
  · rw [if_neg hj2, St.set_far _ _ (by omega), St.set_far _ _ (by omega), St.set_far _ _ (by omega)]
end Go.Proofs.Ytioecklnijhjgaa
namespace Go.Proofs.Ytioecklnijhjgaa
open Go.RowKit

set_option maxRecDepth 20000 in
set_option maxHeartbeats 400000 in
theorem indexFunc_cap2 (fn : FuncId) (c d : Value) (hfn : ∀ (x : Value) (W : World), (callFunc fn #[x, c, d]).run Try.prog W = .ok (.enter fn #[x, c, d]) W) (p : Int → Bool) (zs : List Int) (ao : Option Addr) (cap : Nat) (w : World) (hl : zs.length ≤ 9223372036854775807) (hR : Hid (Reads w ao (zs.map (Value.int .i64))))
    (hf : Hid (∀ x ∈ zs, ∀ n, Calls Try.prog fn #[.int .i64 x, c, d] (w.drewN n) fun e w' => e = .returned (.bool (p x)) ∧ ∃ m, w' = (w.drewN n).drewN m)) :
    Calls Try.prog 56 #[.slice ao zs.length cap, .func (.func fn) #[] #[c, d]] w fun e w' => e = .returned (.int .i64 (idxI p zs)) ∧ ∃ n, w' = w.drewN n := by
  obtain ⟨len, hlen⟩ : ∃ n, zs.length = n := ⟨_, rfl⟩
  rw [hlen] at hl ⊢
  have HL := Lib.hid hlen
  clear hlen
  go_enter Try.func56, Try.ntmps56
  go_wp2_with fail
  go_loopw [8] (fun vi wr => ∃ k : Nat, vi = .int .i64 k ∧ k ≤ len ∧ Hid (∀ j y, j < k → zs[j]? = some y → p y = false) ∧ ∃ n, wr = w.drewN n) (fun vi _ => len - (intOf vi).toNat)
  case atStart => exact ⟨0, rfl, by omega, by intro j y hj; omega, 0, rfl⟩
  case round =>
    obtain ⟨k, rfl, hk, hno, n, rfl⟩ := hrel
    by_cases hkl : k < len
    · obtain ⟨x, hx⟩ : ∃ x, zs[k]? = some x := ⟨zs[k]'(by rw [HL.out]; exact hkl), List.getElem?_eq_getElem _⟩
      obtain ⟨b, o, rfl, hc⟩ := hR.out k (.int .i64 x) (by simp [hx])
      have HX := Lib.hid hx
      clear hx
      have hcall := Lib.hid (hf.out x (List.mem_of_getElem? HX.out))
      cases hp : p x with
      | true =>
        have HP := Lib.hid hp
        clear hp
        go_wp2_with fail
        refine (hcall.out n).mono ?_
        rw [HP.out]
        rintro e w' ⟨rfl, m, rfl⟩
        go_wp2
        go_ret
        exact ⟨ret_int (idxI_some HX.out HP.out hno.out).symm, _, rfl⟩
      | false =>
        have HP := Lib.hid hp
        clear hp
        go_wp2_with fail
        refine (hcall.out n).mono ?_
        rw [HP.out]
        rintro e w' ⟨rfl, m, rfl⟩
        go_wp2
        go_roundw
        case rel => exact ⟨k + 1, by go_num, by omega, by
          intro j y hj hy
          by_cases he : j = k
          · subst he; rw [HX.out] at hy; cases hy; exact HP.out
          · exact hno.out j y (by omega) hy, _, rfl⟩
        case measure => simp [intOf]; omega
    · obtain rfl : k = len := by omega
      go_wp2
      go_ret
      refine ⟨ret_int (idxI_none fun x hx => ?_).symm, _, rfl⟩
      obtain ⟨j, hj⟩ := List.getElem?_of_mem hx
      have := (List.getElem?_eq_some_iff.1 hj).1
      exact hno.out j x (by have := HL.out; omega) hj
set_option maxHeartbeats 400000 in
theorem containsFunc_cap2 (fn : FuncId) (c d : Value) (hfn : ∀ (x : Value) (W : World), (callFunc fn #[x, c, d]).run Try.prog W = .ok (.enter fn #[x, c, d]) W) (p : Int → Bool) (zs : List Int) (ao : Option Addr) (cap : Nat) (w : World) (hl : zs.length ≤ 9223372036854775807) (hR : Hid (Reads w ao (zs.map (Value.int .i64))))
    (hf : Hid (∀ x ∈ zs, ∀ n, Calls Try.prog fn #[.int .i64 x, c, d] (w.drewN n) fun e w' => e = .returned (.bool (p x)) ∧ ∃ m, w' = (w.drewN n).drewN m)) :
    Calls Try.prog 39 #[.slice ao zs.length cap, .func (.func fn) #[] #[c, d]] w fun e w' => e = .returned (.bool (zs.any p)) ∧ ∃ n, w' = w.drewN n := by
  go_enter Try.func39, Try.ntmps39
  go_wp2_with (go_at_call 56; refine (indexFunc_cap2 fn c d hfn p zs ao cap w hl hR hf).mono ?_; rintro e w' ⟨rfl, n, rfl⟩)
  go_ret
  exact ⟨ret_bool (idxI_nonneg p zs), _, rfl⟩
end Go.Proofs.Ytioecklnijhjgaa
namespace Go.Proofs.Ytioecklnijhjgaa
open Go.RowKit

theorem run_torn (x c d : Value) (W : World) : (callFunc 40 #[x, c, d]).run Try.prog W = .ok (.enter 40 #[x, c, d]) W := by kernel_rfl
theorem torn_clo {w : World} {base : Nat} {Av : Nat → Prop} {n k wr r b nb : Nat} {V : Nat → Nat → Value} {st : St} (i key B2 B3 : Nat) (hi : i < n) (hkey : key < 3) (hn : n ≤ 10) (h : Shf w base Av n k wr r b nb V st)
    (c2 : w.cell? ⟨B2, 0, none⟩ = some (.pointer (some ⟨b, 0, none⟩))) (c3 : w.cell? ⟨B3, 1, none⟩ = some (.int .i64 (key : Int))) :
    Calls Try.prog 40 #[.int .i64 (i : Int), .pointer (some ⟨B2, 0, none⟩), .pointer (some ⟨B3, 0, none⟩)] w fun e w' => e = .returned (.bool (decide (8 ≤ (st.kp i key).length))) ∧ ∃ q, w' = w.drewN q := by
  have x4 := h.cells.2.2.2.2.1
  obtain ⟨ak, ck, hvk, _, _⟩ := h.reads hi hkey
  have xk := h.kpc hi hkey
  rw [hvk] at xk
  have hl := h.ok.len i key
  obtain ⟨lk, hlk⟩ : ∃ lk, (st.kp i key).length = lk := ⟨_, rfl⟩
  rw [hlk] at xk hl ⊢
  have i0 : (0 : Int) ≤ (i : Int) := by omega
  have i1 : (i : Int) < (n : Int) := by omega
  have y0 : (0 : Int) ≤ (key : Int) := by omega
  have y1 : (key : Int) < 3 := by omega
  obtain ⟨t, ht⟩ : ∃ t, decide (8 ≤ lk) = t := ⟨_, rfl⟩
  have ht' : decide ((8 : Int) ≤ (lk : Int)) = t := by rw [← ht]; exact decide_eq_decide.2 (by omega)
  rw [ht]
  clear h hvk hlk
  go_enter Try.func40, Try.ntmps40
  go_wp2_with fail
  go_quiet (fail)
  go_wp2_with fail
  go_ret
  exact ⟨ret_bool (by first | rfl | assumption | simp_all), _, rfl⟩
theorem grown_trans {w w1 w2 : World} {r : Option Nat} (h : w.grownBy w1 r) (h2 : w1.grownBy w2 r) : w.grownBy w2 r :=
  ⟨h2.os.trans h.os, h2.tape.trans h.tape, h2.output.trans h.output, Nat.le_trans h.size h2.size, fun k hk hne => (h2.block k (Nat.lt_of_lt_of_le hk h.size) hne).trans (h.block k hk hne)⟩
theorem grown_of_below' {w w' : World} (h : Below w.heap.size w w') (r : Option Nat) : w.grownBy w' r := ⟨h.os, h.tape, h.output, h.size, fun k hk _ => h.block k hk⟩
theorem step_app_kp {P : Program} {W : World} {ops : Array Oper} {o : Oper} {a : Act} {K : Act → World → Prop} {Q : Exit → Act → World → Prop} {E : Prop} (hgd : o.guard = none) (s x : Operand) (t : TypeId)
    (ho : o.op = .call { callee := .builtin .append, args := #[s, x], argTypes := #[t, t] })
    (base : Nat) (e : TypeId) (z : Value) (size bytes : Nat) (ht : P.underlying t = some (.slice e)) (hE : ElemRow P e z size bytes)
    (v : Value) (n : Nat) (xs : List Value) (hs : a.eval s = v) (w0 : World) (hown : w0.ownsRow base e size v n xs)
    (hbs : base ≤ w0.heap.size) (hW : Below w0.heap.size w0 W)
    (q : Nat) (us : Array Value) (hx : a.eval x = .slice (some ⟨q, 0, none⟩) 1 1) (hq : W.heap[q]? = some (.cells us e)) (hlen : us.size = size) (h1 : ∀ u ∈ us.toList, u.oneCell' = true)
    (h63 : n + 1 ≤ maxLen) (hbytes : (n + 1) * bytes ≤ 140737488355328)
    (h : ∀ g cap w', w'.ownsRow base e size (.slice (some ⟨g, 0, none⟩) (n + 1) cap) (n + 1) (xs ++ us.toList) → w0.grownBy w' v.ownBlock → (v.ownBlock = some g ∨ w0.heap.size ≤ g) → K (a.put o.dst (.slice (some ⟨g, 0, none⟩) (n + 1) cap)) w') :
    if Region.wanted o (yielded ops a.tmps) = true then Oper.wp P o a W K Q else E := by
  obtain ⟨i, hi, hz, hsize, hby, hzs, hsz1⟩ := hE
  have hownW := own_below hown hW
  refine step_append_lies W hgd s x t ho base e i z size bytes ht hi hz hsize hby hzs hsz1 v n xs hs hownW ⟨q, 0, none⟩ 1 1 us.toList hx (by simp [hlen]) (World.news_of_block hq) h1 (by omega) h63 hbytes (Nat.le_trans hbs hW.size) W.heap.size rfl ?_
  intro g cap w' hown' hgr hat hlt
  refine h g cap w' hown' (grown_trans (grown_of_below' hW _) hgr) ?_
  rcases hat with e | e
  · exact .inl e
  · exact .inr (by rw [e]; exact hW.size)
theorem tornS_ok {a k key : Nat} {text : ByteArray} (hs : text.size ≤ 60) (hk : 1 ≤ k) (ha : 1 ≤ a) : ∀ (U : List Nat) (st : St), U.Nodup → Okst st → a ≤ st.wr → (∀ i ∈ U, ∀ x ∈ st.kp i key, x.1 < a) → Okst (U.foldl (tornS a k text key) st) ∧ (U.foldl (tornS a k text key) st).wr = st.wr ∧ (∀ i, i ∉ U → (U.foldl (tornS a k text key) st).kp i key = st.kp i key)
  | [], st, _, h, _, _ => ⟨h, rfl, fun _ _ => rfl⟩
  | i :: t, st, hu, h, h2, hlt => by
    rw [List.nodup_cons] at hu
    have h3 := tornS_ok (key := key) hs hk ha t (tornS a k text key st i) hu.2 (h.torn i key a (hlt i (by simp)) ha h2 (pcs_size _ _ _ hs hk)) h2 (fun j hj x hx => by
      have hne : j ≠ i := fun e => hu.1 (e ▸ hj)
      have e : (tornS a k text key st i).kp j key = st.kp j key := St.set_far _ _ (.inl hne)
      rw [e] at hx
      exact hlt j (by simp [hj]) x hx)
    refine ⟨h3.1, h3.2.1, fun j hj => ?_⟩
    rw [List.foldl_cons, h3.2.2 j (fun h => hj (by simp [h]))]
    exact St.set_far _ _ (.inl (fun e => hj (by simp [e])))
end Go.Proofs.Ytioecklnijhjgaa
