/- Slices that came in: what their cells hold. Over whatever program. -/
import Derived.Test.YtgdcmebhopjfaaaTrM6
import Derived.ChangeSlices
import Derived.SliceStrings
import Derived.Test.YtgdcmebhopjfaaaInterp
import Derived.Deep.Matrix
namespace Go.Proofs.Ytgdcmebhopjfaaa
open Go.RowKit

def IntsIn (k : IntKind) (w : World) (ao : Option Addr) (len : Nat) (zs : List Int) : Prop :=
  zs.length = len ∧ len ≤ 9223372036854775807 ∧ (∀ z ∈ zs, (Lit.int k z).wf = true) ∧ Reads w ao (zs.map (Value.int k))
theorem intsIn_nil (k : IntKind) (w : World) : IntsIn k w none 0 [] := ⟨rfl, by omega, by simp, Reads.nil _ _⟩
theorem addr_of_cell {w : World} {a : Addr} {v : Value} (h : w.cell? a = some v) : a = ⟨a.block, a.off, none⟩ := by
  obtain ⟨b, o, s⟩ := a
  cases s with
  | none => rfl
  | some s => unfold World.cell? at h; split at h <;> simp at h
theorem reads_of {w : World} {a : Addr} {xs : List Value} (h : ∀ (i : Nat) (u : Value), xs[i]? = some u → w.cell? (a.add i) = some u) : Reads w (some a) xs := by
  intro j u hu
  have h0 : 0 < xs.length := by have := (List.getElem?_eq_some_iff.1 hu).1; omega
  have h1 := h 0 _ (List.getElem?_eq_getElem h0)
  have e : a.add 0 = a := rfl
  rw [e] at h1
  have ha := addr_of_cell h1
  have h2 := h j u hu
  rw [ha, Addr.add_lit] at h2
  exact ⟨a.block, a.off, by rw [← ha], h2⟩
theorem intsIn_of {k : IntKind} {w : World} {a : Addr} {len cap : Nat} {zs : List Int} (hl : len ≤ cap) (hm : cap ≤ maxLen) (hz : zs.length = cap)
    (hc : ∀ i, i < zs.length → w.cell? (a.add i) = some (.int k (zs.getD i 0))) (hw : ∀ n ∈ zs, (Lit.int k n).wf = true) : IntsIn k w (some a) len (zs.take len) := by
  unfold maxLen at hm
  refine ⟨by rw [List.length_take]; omega, by omega, fun z hz2 => hw z (List.mem_of_mem_take hz2), reads_of fun i u hu => ?_⟩
  rw [List.getElem?_map, List.getElem?_take] at hu
  split at hu
  · rename_i hi
    have hi2 : i < zs.length := by omega
    rw [List.getElem?_eq_getElem hi2] at hu
    simp only [Option.map_some, Option.some.injEq] at hu
    rw [hc i hi2, ← hu, List.getD_eq_getElem?_getD, List.getElem?_eq_getElem hi2]; rfl
  · simp at hu
def StrsIn (w : World) (ao : Option Addr) (len : Nat) (ss : List ByteArray) : Prop :=
  ss.length = len ∧ len ≤ 9223372036854775807 ∧ (∀ s ∈ ss, s.size ≤ 9223372036854775807) ∧ Reads w ao (ss.map Value.string)
theorem strsIn_nil (w : World) : StrsIn w none 0 [] := ⟨rfl, by omega, by simp, Reads.nil _ _⟩
theorem strsIn_of {w : World} {a : Addr} {len cap : Nat} {ss : List ByteArray} (hl : len ≤ cap) (hm : cap ≤ maxLen) (hz : ss.length = cap)
    (hc : ∀ i, i < ss.length → w.cell? (a.add i) = some (.string (ss.getD i ByteArray.empty))) (hw : ∀ s ∈ ss, s.size ≤ maxLen) : StrsIn w (some a) len (ss.take len) := by
  unfold maxLen at hm hw
  refine ⟨by rw [List.length_take]; omega, by omega, fun z hz2 => hw z (List.mem_of_mem_take hz2), reads_of fun i u hu => ?_⟩
  rw [List.getElem?_map, List.getElem?_take] at hu
  split at hu
  · rename_i hi
    have hi2 : i < ss.length := by omega
    rw [List.getElem?_eq_getElem hi2] at hu
    simp only [Option.map_some, Option.some.injEq] at hu
    rw [hc i hi2, ← hu, List.getD_eq_getElem?_getD, List.getElem?_eq_getElem hi2]; rfl
  · simp at hu
/-- The capacity of a slice that came in. -/
def CapOk (ao : Option Addr) (len cap : Nat) : Prop := (ao = none → len = 0 ∧ cap = 0) ∧ len ≤ cap ∧ cap ≤ 9223372036854775807
theorem u8_wf {a : Int} (h : (Lit.int .u8 a).wf = true) : 0 ≤ a ∧ a ≤ 255 := by
  simpa [Lit.wf, IntKind.min, IntKind.max, IntKind.signed, IntKind.bits] using h
end Go.Proofs.Ytgdcmebhopjfaaa
namespace Go.Proofs.Ytgdcmebhopjfaaa
open Go.RowKit

theorem own_formK {w : World} {base e size : Nat} {v : Value} {n K : Nat} {xs : List Value} (h : w.ownsRow base e size v n xs) (hx : xs ≠ []) (hK : n = K) : ∃ g cap, v = .slice (some ⟨g, 0, none⟩) K cap ∧ w.ownsRow base e size (.slice (some ⟨g, 0, none⟩) K cap) K xs := by
  subst hK
  obtain ⟨g, cap, rfl⟩ := own_form h hx
  exact ⟨g, cap, rfl, h⟩
theorem reads_cell0 {w : World} {b : Nat} {xs : List Value} (h : Reads w (some ⟨b, 0, none⟩) xs) {i : Nat} {u : Value} (hi : xs[i]? = some u) : w.cell? ⟨b, i, none⟩ = some u := by
  obtain ⟨b2, o2, ha, hc⟩ := h i u hi
  injection ha with ha
  injection ha with e1 e2
  subst e1 e2
  rw [Nat.zero_add] at hc
  exact hc
theorem own_dataK {w : World} {base e : Nat} {v : Value} {n : Nat} {xs : List Value} (h : w.ownsRow base e 1 v n xs) : ∃ ao cap, v = .slice ao n cap ∧ Reads w ao xs ∧ (ao = none → n = 0 ∧ cap = 0) ∧ n ≤ cap ∧ cap ≤ 9223372036854775807 := by
  obtain ⟨ao, cap, hv, hR, hn, _⟩ := own_reads h
  refine ⟨ao, cap, hv, hR, hn, ?_⟩
  rcases h.2 with ⟨h1, h2⟩ | ⟨g, cp, cur, hv3, h2⟩
  · rw [h1] at hv
    injection hv with e1 e2 e3
    omega
  · rw [hv3] at hv
    injection hv with e1 e2 e3
    have := h2.2.2.1
    have := h2.2.2.2.1
    unfold maxLen at *
    omega
theorem Own.caps {w : World} {base e g n cap : Nat} {f : Nat → Value} (h : Own w base e g n cap f) : n ≤ cap ∧ cap ≤ 9223372036854775807 := by
  obtain ⟨ao, cp, hv, _, _, h1, h2⟩ := own_dataK h
  cases hv
  exact ⟨h1, h2⟩
end Go.Proofs.Ytgdcmebhopjfaaa
namespace Go.Proofs.Ytgdcmebhopjfaaa
open Go.RowKit

/-- A row as its header has it: where, how much room, which bytes. -/
structure Hd where
  A : Option Addr
  C : Nat
  Z : List Nat
def Hd.v (h : Hd) : Value := .slice h.A h.Z.length h.C
def u8s (l : List Nat) : List Value := l.map fun x : Nat => Value.int .u8 (x : Int)
theorem u8s_get {l : List Nat} {i x : Nat} (h : l[i]? = some x) : (u8s l)[i]? = some (.int .u8 (x : Int)) := by unfold u8s; rw [List.getElem?_map, h]; rfl
theorem u8s_len (l : List Nat) : (u8s l).length = l.length := by simp [u8s]
theorem u8s_one (l : List Nat) : ∀ u ∈ u8s l, u.oneCell' = true := by
  intro u hu
  obtain ⟨_, _, rfl⟩ := List.mem_map.1 hu
  rfl
theorem u8s_append (l m : List Nat) : u8s (l ++ m) = u8s l ++ u8s m := by simp [u8s]
structure RowOk (w : World) (h : Hd) : Prop where
  none : h.A = none → h.Z.length = 0 ∧ h.C = 0
  cap : h.Z.length ≤ h.C
  max : h.C ≤ 9223372036854775807
  reads : Reads w h.A (u8s h.Z)
  byte : ∀ z ∈ h.Z, z < 256
theorem RowOk.below {w w' : World} {h : Hd} (k : RowOk w h) (hb : Below w.heap.size w w') : RowOk w' h := ⟨k.none, k.cap, k.max, k.reads.below hb, k.byte⟩
/-- A table that is read: its headers, and what they stand for. -/
structure TabIn (w : World) (ao : Option Addr) (n : Nat) (T : List Hd) : Prop where
  len : T.length = n
  max : n ≤ 9223372036854775807
  reads : Reads w ao (T.map Hd.v)
  rows : ∀ h ∈ T, RowOk w h
theorem TabIn.below {w w' : World} {ao : Option Addr} {n : Nat} {T : List Hd} (k : TabIn w ao n T) (hb : Below w.heap.size w w') : TabIn w' ao n T :=
  ⟨k.len, k.max, k.reads.below hb, fun h hh => (k.rows h hh).below hb⟩
theorem tabIn_nil (w : World) : TabIn w none 0 [] := ⟨rfl, by omega, Reads.nil _ _, by simp⟩
theorem TabIn.get {w : World} {ao : Option Addr} {n : Nat} {T : List Hd} (k : TabIn w ao n T) {i : Nat} (hi : i < n) : ∃ h b o, T[i]? = some h ∧ ao = some ⟨b, o, none⟩ ∧ w.cell? ⟨b, o + i, none⟩ = some (.slice h.A h.Z.length h.C) ∧ RowOk w h := by
  have hl : i < T.length := by rw [k.len]; exact hi
  obtain ⟨b, o, h1, h2⟩ := k.reads i (T[i]).v (by simp [List.getElem?_eq_getElem hl])
  exact ⟨T[i], b, o, List.getElem?_eq_getElem hl, h1, h2, k.rows _ (List.getElem_mem hl)⟩
theorem tabIn_of {w : World} {a : Addr} {len cap : Nat} {A : Nat → Option Addr} {L C : Nat → Nat} {Z : Nat → List Int} (hl : len ≤ cap) (hm : cap ≤ maxLen)
    (h : ∀ r, r < cap → w.cell? (a.add r) = some (.slice (A r) (L r) (C r)) ∧ L r ≤ C r ∧ C r ≤ maxLen ∧ (Z r).length = C r ∧ (∀ n ∈ Z r, (Lit.int .u8 n).wf = true) ∧ (A r = none → C r = 0) ∧
      ∀ a', A r = some a' → 0 ≤ a'.block ∧ ∀ c, c < C r → w.cell? (a'.add c) = some (.int .u8 ((Z r).getD c 0))) :
    ∃ T, TabIn w (some a) len T := by
  refine ⟨(List.range len).map fun r => ⟨A r, C r, ((Z r).take (L r)).map Int.toNat⟩, ?_, ?_, ?_, ?_⟩
  · simp
  · unfold maxLen at hm; omega
  · refine reads_of fun i u hu => ?_
    rw [List.getElem?_map, List.getElem?_map] at hu
    by_cases hi : i < len
    · rw [List.getElem?_range hi] at hu
      simp only [Option.map_some, Option.some.injEq] at hu
      subst hu
      obtain ⟨h1, h2, _, h4, _⟩ := h i (by omega)
      rw [h1]
      simp [Hd.v, Nat.min_eq_left, h4, h2]
    · rw [List.getElem?_eq_none (by simpa using hi)] at hu
      cases hu
  · intro hd hh
    obtain ⟨r, hr, rfl⟩ := List.mem_map.1 hh
    have hr := List.mem_range.1 hr
    obtain ⟨h1, h2, h3, h4, h5, h6, h7⟩ := h r (by omega)
    have hlen : ((List.take (L r) (Z r)).map Int.toNat).length = L r := by rw [List.length_map, List.length_take]; omega
    refine ⟨fun hn => ?_, ?_, ?_, ?_, ?_⟩
    · simp only at hn ⊢
      rw [hlen]
      have := h6 hn
      omega
    · simp only; rw [hlen]; exact h2
    · unfold maxLen at h3; simp only; omega
    · have hlt : ∀ (j : Nat) (u : Value), (u8s ((List.take (L r) (Z r)).map Int.toNat))[j]? = some u → j < L r := by
        intro j u hu
        have := (List.getElem?_eq_some_iff.1 hu).1
        rw [u8s_len, hlen] at this
        exact this
      show Reads w (A r) (u8s ((List.take (L r) (Z r)).map Int.toNat))
      cases hA : A r with
      | none => intro j u hu; have := hlt j u hu; have := h6 hA; omega
      | some a' =>
        refine reads_of fun j u hu => ?_
        have hj := hlt j u hu
        rw [(h7 a' hA).2 j (by omega)]
        have hz : (Z r)[j]? = some ((Z r).getD j 0) := by
          rw [List.getD_eq_getElem?_getD]
          rw [List.getElem?_eq_getElem (by omega)]
          rfl
        have hw := u8_wf (h5 _ (List.mem_of_getElem? hz))
        unfold u8s at hu
        simp only [List.getElem?_map, List.getElem?_take, if_pos hj, hz, Option.map_some, Option.some.injEq] at hu
        rw [← hu, Int.toNat_of_nonneg hw.1]
    · intro z hz
      simp only at hz
      obtain ⟨x, hx, rfl⟩ := List.mem_map.1 hz
      have hw := u8_wf (h5 x (List.mem_of_mem_take hx))
      omega
/-- Where the first of some values stands that a test lets by; -1 if there is none. -/
def idxA {α : Type} (p : α → Bool) (zs : List α) : Int := match zs.findIdx? p with | some i => (i : Int) | none => -1
theorem idxA_none {α : Type} {p : α → Bool} {zs : List α} (h : ∀ x ∈ zs, p x = false) : idxA p zs = -1 := by
  unfold idxA
  rw [List.findIdx?_eq_none_iff.2 (by simpa using h)]
theorem idxA_some {α : Type} {p : α → Bool} {zs : List α} {k : Nat} {x : α} (hk : zs[k]? = some x) (hx : p x = true) (h : ∀ j y, j < k → zs[j]? = some y → p y = false) : idxA p zs = k := by
  have : zs.findIdx? p = some k := by
    rw [List.findIdx?_eq_some_iff_getElem]
    obtain ⟨hl, he⟩ := List.getElem?_eq_some_iff.1 hk
    refine ⟨hl, by rw [he]; exact hx, fun j hj => ?_⟩
    have := h j _ hj (List.getElem?_eq_getElem (by omega))
    simp [this]
  unfold idxA
  rw [this]
theorem idxA_nonneg {α : Type} (p : α → Bool) (zs : List α) : decide (0 ≤ idxA p zs) = zs.any p := by
  unfold idxA
  cases h : zs.findIdx? p with
  | none =>
    rw [List.findIdx?_eq_none_iff] at h
    have : zs.any p = false := by simp only [List.any_eq_false]; intro x hx; simp [h x hx]
    rw [this]
    rfl
  | some i =>
    rw [List.findIdx?_eq_some_iff_getElem] at h
    obtain ⟨hl, h1, _⟩ := h
    have : zs.any p = true := List.any_eq_true.2 ⟨_, List.getElem_mem hl, h1⟩
    rw [this]
    simp
end Go.Proofs.Ytgdcmebhopjfaaa
namespace Go.Proofs.Ytgdcmebhopjfaaa
open Go.RowKit

theorem wpList_wanted {P : Program} {ops : Array Oper} {Q : Exit → Act → World → Prop} {a : Act} {w : World} {rest : List Oper} {o : Oper} (hw : Region.wanted o (yielded ops a.tmps) = true)
    (h : o.wp P a w (wpList P ops Q rest) Q) : wpList P ops Q (o :: rest) a w := by
  unfold wpList
  rw [if_pos hw]
  exact .inl h
theorem wp_app1 {P : Program} {W : World} {o : Oper} {a : Act} {K : Act → World → Prop} {Q : Exit → Act → World → Prop} (s x : Operand) (t : TypeId)
    (ho : o.op = .call { callee := .builtin .append, args := #[s, x], argTypes := #[t, t] })
    (base : Nat) (e : TypeId) (z : Value) (bytes : Nat) (ht : P.underlying t = some (.slice e)) (hE : ElemRow P e z 1 bytes)
    (v : Value) (n : Nat) (xs : List Value) (hs : a.eval s = v) (w0 : World) (hown : w0.ownsRow base e 1 v n xs)
    (u : Value) (hx : a.eval x = .slice (some ⟨w0.heap.size, 0, none⟩) 1 1) (h1 : u.oneCell' = true)
    (hW : Below (w0.heap.size + 1) (w0.alloc (.cells #[u] e)) W) (hsz : W.heap.size = w0.heap.size + 1)
    (h63 : n + 1 ≤ maxLen) (hbytes : (n + 1) * bytes ≤ 140737488355328) (hbase : base ≤ w0.heap.size)
    (h : ∀ g cap w', w'.ownsRow base e 1 (.slice (some ⟨g, 0, none⟩) (n + 1) cap) (n + 1) (xs ++ [u]) → (w0.alloc (.cells #[u] e)).grownBy w' v.ownBlock → Below base w0 w' →
      (v.ownBlock = some g ∨ g = w0.heap.size + 1) → g < w'.heap.size → K (a.put o.dst (.slice (some ⟨g, 0, none⟩) (n + 1) cap)) w') :
    Oper.wp P o a W K Q := by
  obtain ⟨i, hi, hz, hsize, hby, hzs, hsz1⟩ := hE
  have hW2 : Below (w0.alloc (.cells #[u] e)).heap.size (w0.alloc (.cells #[u] e)) W := by rw [World.size_alloc]; exact hW
  have hnb : W.heap[w0.heap.size]? = some (.cells #[u] e) := by rw [hW.block _ (by omega)]; exact heap_alloc_new w0 _
  refine wp_append_lies W s x t ho base e i z 1 bytes ht hi hz hsize hby hzs hsz1 v n xs hs (own_below (hown.alloc _) hW2) ⟨w0.heap.size, 0, none⟩ 1 1 [u] hx (by simp) (World.news_of_block hnb) (by intro q hq; simp at hq; subst hq; exact h1) (by omega) h63 hbytes (by omega) (w0.heap.size + 1) hsz ?_
  intro g cap w' hown' hgr hat hlt
  have hgr2 : (w0.alloc (.cells #[u] e)).grownBy w' v.ownBlock := ⟨hgr.os.trans hW.os, hgr.tape.trans hW.tape, hgr.output.trans hW.output, by rw [World.size_alloc]; have := hgr.size; omega, fun k hk hne => by
    rw [World.size_alloc] at hk
    rw [hgr.block k (by omega) hne, hW.block k hk]⟩
  exact h g cap w' hown' hgr2 (((Below.refl base w0).alloc hbase _).grown hgr2 (by rw [World.size_alloc]; omega) fun k hk => (hown.lt k hk).1) hat hlt
/-- 'append(s, x)' of one cell where the operation is guarded, and wanted. -/
theorem app_guarded {P : Program} {w : World} {ops : Array Oper} {rest : List Oper} {o : Oper} {a : Act} {Q : Exit → Act → World → Prop} (hw : Region.wanted o (yielded ops a.tmps) = true) (s x : Operand) (t : TypeId)
    (ho : o.op = .call { callee := .builtin .append, args := #[s, x], argTypes := #[t, t] })
    (base : Nat) (e : TypeId) (z : Value) (bytes : Nat) (ht : P.underlying t = some (.slice e)) (hE : ElemRow P e z 1 bytes)
    (v : Value) (n : Nat) (xs : List Value) (hs : a.eval s = v) (hown : w.ownsRow base e 1 v n xs)
    (u : Value) (hx : a.eval x = .slice (some ⟨w.heap.size, 0, none⟩) 1 1) (h1 : u.oneCell' = true)
    (h63 : n + 1 ≤ maxLen) (hbytes : (n + 1) * bytes ≤ 140737488355328) (hbase : base ≤ w.heap.size)
    (h : ∀ g cap w', w'.ownsRow base e 1 (.slice (some ⟨g, 0, none⟩) (n + 1) cap) (n + 1) (xs ++ [u]) → Below base w w' → wpList P ops Q rest (a.put o.dst (.slice (some ⟨g, 0, none⟩) (n + 1) cap)) w') :
    wpList P ops Q (o :: rest) a (w.alloc (.cells #[u] e)) :=
  wpList_wanted hw (wp_app1 s x t ho base e z bytes ht hE v n xs hs w hown u hx h1 (Below.refl _ _) (by simp) h63 hbytes hbase fun g cap w' h2 _ h4 _ _ => h g cap w' h2 h4)
end Go.Proofs.Ytgdcmebhopjfaaa
