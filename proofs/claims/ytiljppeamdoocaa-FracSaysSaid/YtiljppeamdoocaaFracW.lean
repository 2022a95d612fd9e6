/- frac.Value where the list is right: the range over slices.Backward, walked inside the wide fence. -/
import Derived.RangeFuncNested
import Derived.RangeFuncBound
import Derived.RangeFuncCalls
import Derived.Shelf.RegionOpen
import Derived.Test.YtiljppeamdoocaaBack
import Derived.Test.YtiljppeamdoocaaFracV
import Derived.Test.YtiljppeamdoocaaTwo
namespace Go.Proofs.Ytiljppeamdoocaa
open Go.RowKit Go.Shelf
attribute [local go_sem] Oper.semAt_some

def fStep (s : Int × Int) (n : Int) : Int × Int := (n * s.1 + s.2, s.1)
/-- The value of the last k elements. -/
def fVal (zs : List Int) : Nat → Int × Int
  | 0 => (1, 0)
  | k + 1 => fStep (fVal zs k) (zs[zs.length - 1 - k]?.getD 0)
def fBig (s : Int × Int) : Prop := 1000000 < s.1 ∨ 1000000 < s.2
def fSm (s : Int × Int) : Prop := 0 ≤ s.1 ∧ s.1 ≤ 1000000 ∧ 0 ≤ s.2 ∧ s.2 ≤ 1000000
abbrev Idx := { x : Int × Int // 0 ≤ x.2 ∧ x.2 ≤ 1000000 }
def encB (x : Idx) : Array Value := #[.int .i64 x.1.1, .int .i64 x.1.2]
def foldB (pre : List Idx) : Int × Int := pre.foldl (fun s x => fStep s x.1.2) (1, 0)
theorem foldB_snoc (pre : List Idx) (x : Idx) : foldB (pre ++ [x]) = fStep (foldB pre) x.1.2 := by unfold foldB; rw [List.foldl_append]; rfl
theorem ok_bd {zs : List Int} (h : ¬ fBad zs) (i : Nat) : 0 ≤ zs[i]?.getD 0 ∧ zs[i]?.getD 0 ≤ 1000000 := by
  cases hx : zs[i]? with
  | none => simp
  | some x =>
    have hb : ¬ fBadAt x i := fun hb => h ⟨i, x, hx, hb⟩
    unfold fBadAt at hb
    rw [Option.getD_some]; omega
def atB (zs : List Int) (h : ¬ fBad zs) (k : Nat) : Idx := ⟨(((zs.length - 1 - k : Nat) : Int), zs[zs.length - 1 - k]?.getD 0), ok_bd h _⟩
theorem foldB_dnto (zs : List Int) (h : ¬ fBad zs) (k : Nat) : foldB (dnto (atB zs h) k) = fVal zs k := by
  induction k with
  | zero => rfl
  | succ k ih => rw [dnto_succ, foldB_snoc, ih]; rfl
def AllSm (pre : List Idx) : Prop := ∀ j, j ≤ pre.length → fSm (foldB (pre.take j))
theorem AllSm.nil : AllSm [] := by
  intro j hj
  rw [List.take_nil]
  exact ⟨by show (0:Int) ≤ 1; omega, by show (1:Int) ≤ _; omega, Int.le_refl _, by show (0:Int) ≤ _; omega⟩
theorem AllSm.snoc {pre : List Idx} {x : Idx} (h : AllSm pre) (h2 : fSm (foldB (pre ++ [x]))) : AllSm (pre ++ [x]) := by
  intro j hj
  rw [List.length_append, List.length_singleton] at hj
  by_cases hj2 : j ≤ pre.length
  · rw [List.take_append_of_le_length hj2]; exact h j hj2
  · rw [List.take_of_length_le (by rw [List.length_append, List.length_singleton]; omega)]; exact h2
theorem AllSm.last {pre : List Idx} (h : AllSm pre) : fSm (foldB pre) := by have := h pre.length (Nat.le_refl _); rwa [List.take_length] at this
theorem fStep_bd {s : Int × Int} {x : Int} (h : fSm s) (h0 : 0 ≤ x) (h1 : x ≤ 1000000) : 0 ≤ x * s.1 ∧ x * s.1 ≤ 1000000000000 := by
  obtain ⟨a, b, _, _⟩ := h
  refine ⟨Int.mul_nonneg h0 a, ?_⟩
  have := Int.mul_le_mul h1 b a (by omega)
  omega
/-- The cells of the call: the two results and the fraction. -/
structure St (H : Nat) (c P Q : Int) (W : World) : Prop where
  r : W.heap[H]? = some (.cells #[.int .i64 0, .int .i64 0] 23 (0, 0))
  e : W.heap[H + 1]? = some (.cells #[.int .i64 c] 25 (0, 0))
  x : W.heap[H + 1 + 1]? = some (.cells #[.int .i64 P, .int .i64 Q] 23 (0, 0))
theorem heap_cell {W : World} {B : Nat} {cs : Array Value} {t : TypeId} {fr : Nat × Nat} (h : W.heap[B]? = some (.cells cs t fr)) (j : Nat) : W.cell? ⟨B, j, none⟩ = cs[j]? := cell_of_row W B j cs t fr h
theorem heap_frozen {W : World} {B : Nat} {cs : Array Value} {t : TypeId} (h : W.heap[B]? = some (.cells cs t (0, 0))) (j : Nat) : W.frozen? ⟨B, j, none⟩ = false := by simp [World.frozen?, h]
theorem heap_set {W : World} {B j : Nat} {cs : Array Value} {t : TypeId} {fr : Nat × Nat} (v : Value) (h : W.heap[B]? = some (.cells cs t fr)) : (W.setCell ⟨B, j, none⟩ v).heap[B]? = some (.cells (cs.setIfInBounds j v) t fr) := by
  obtain ⟨hlt, hk⟩ := Array.getElem?_eq_some_iff.1 h
  show (W.heap.modify B _)[B]? = _
  rw [Array.getElem?_eq_getElem (by rw [Array.size_modify]; exact hlt), Array.getElem_modify_self, hk]
  rfl
theorem heap_set_far {W : World} {B B' j : Nat} (v : Value) (hne : B ≠ B') : (W.setCell ⟨B, j, none⟩ v).heap[B']? = W.heap[B']? := Below.heap_setCell _ _ _ B' (fun e => hne e.symm)
theorem St.own {H : Nat} {c P Q : Int} {A B : World} {row : Option Nat} (h : St H c P Q A) (hg : A.grownBy B row) (hr : ∀ r, row = some r → ∃ o : Obj, A.heap[r]? = some o ∧ o.isCells = false) : St H c P Q B :=
  ⟨(grownBy_keeps_cells hg hr h.r rfl).trans h.r, (grownBy_keeps_cells hg hr h.e rfl).trans h.e, (grownBy_keeps_cells hg hr h.x rfl).trans h.x⟩
theorem St.set {H : Nat} {c P Q P' Q' : Int} {W : World} (h : St H c P Q W) : St H c P' Q' ((W.setCell ⟨H + 1 + 1, 0, none⟩ (.int .i64 P')).setCell ⟨H + 1 + 1, 1, none⟩ (.int .i64 Q')) :=
  ⟨by rw [heap_set_far _ (by omega), heap_set_far _ (by omega)]; exact h.r, by rw [heap_set_far _ (by omega), heap_set_far _ (by omega)]; exact h.e, by rw [heap_set _ (heap_set _ h.x)]; rfl⟩
theorem St.ret {H : Nat} {c c' P Q P' Q' : Int} {W : World} (h : St H c P Q W) (h2 : P' = 0) (h3 : Q' = 0) : St H c' P Q (((W.setCell ⟨H, 0, none⟩ (.int .i64 P')).setCell ⟨H, 1, none⟩ (.int .i64 Q')).setCell ⟨H + 1, 0, none⟩ (.int .i64 c')) := by
  subst h2
  subst h3
  exact ⟨by rw [heap_set_far _ (by omega), heap_set _ (heap_set _ h.r)]; rfl, by rw [heap_set _ (show _ = some (Obj.cells #[.int .i64 c] 25 (0, 0)) by rw [heap_set_far _ (by omega), heap_set_far _ (by omega)]; exact h.e)]; rfl, by rw [heap_set_far _ (by omega), heap_set_far _ (by omega), heap_set_far _ (by omega)]; exact h.x⟩
theorem St.fin {H : Nat} {c c' P Q p q : Int} {W : World} (h : St H c P Q W) :
    (((W.setCell ⟨H, 0, none⟩ (.int .i64 p)).setCell ⟨H, 1, none⟩ (.int .i64 q)).setCell ⟨H + 1, 0, none⟩ (.int .i64 c')).heap[H]? = some (.cells #[.int .i64 p, .int .i64 q] 23 (0, 0)) ∧
    (((W.setCell ⟨H, 0, none⟩ (.int .i64 p)).setCell ⟨H, 1, none⟩ (.int .i64 q)).setCell ⟨H + 1, 0, none⟩ (.int .i64 c')).heap[H + 1]? = some (.cells #[.int .i64 c'] 25 (0, 0)) :=
  ⟨by rw [heap_set_far _ (by omega), heap_set _ (heap_set _ h.r)]; rfl, by rw [heap_set _ (show _ = some (Obj.cells #[.int .i64 c] 25 (0, 0)) by rw [heap_set_far _ (by omega), heap_set_far _ (by omega)]; exact h.e)]; rfl⟩
theorem below_set {n₀ B j : Nat} {A W : World} (h : Below n₀ A W) (hB : n₀ ≤ B) (v : Value) : Below n₀ A (W.setCell ⟨B, j, none⟩ v) := h.setCell (p := ⟨B, j, none⟩) hB v
theorem fSm_take {pre : List Idx} (x : Idx) (h : AllSm pre) (hb : fBig (foldB (pre ++ [x]))) : ∃ k, k ≤ (pre ++ [x]).length ∧ fBig (foldB ((pre ++ [x]).take k)) ∧ ∀ j, j < k → fSm (foldB ((pre ++ [x]).take j)) := by
  refine ⟨pre.length + 1, by rw [List.length_append, List.length_singleton]; exact Nat.le_refl _, by rw [List.take_of_length_le (by rw [List.length_append, List.length_singleton]; exact Nat.le_refl _)]; exact hb, fun j hj => ?_⟩
  rw [List.take_append_of_le_length (by omega)]
  exact h j (by omega)
set_option maxRecDepth 100000 in
set_option maxHeartbeats 2000000 in
theorem value_good_in (F : Fence) (n : Nat) (h23 : F.fn 13) (h93 : F.fn 73) (h151 : F.fn 121) (hro : F.round = none) (hn : 3 ≤ n)
    (zs : List Int) (len : Nat) (ao : Option Addr) (cap : Nat) (w : World) (hl : zs.length = len) (h1 : 1 ≤ len) (h63 : len ≤ 9223372036854775807) (hR : Hid (Reads w ao (zs.map (Value.int .i64)))) (hok : Hid (¬ fBad zs))
    (hI : IntsB w.heap.size w ao cap zs) :
    CallsIn F n Try.prog 13 #[.slice ao len cap] w (fun e w' =>
      ((∀ k, k ≤ len → fSm (fVal zs k)) ∧ ValRet (fVal zs len).1 (fVal zs len).2 0 w e w') ∨ ((∃ k, k ≤ len ∧ fBig (fVal zs k) ∧ ∀ j, j < k → fSm (fVal zs j)) ∧ ValRet 0 0 2 w e w')) := by
  have hn1 : 1 ≤ n := by omega
  have HL := Lib.hid hl
  have hne2 : ¬ ((len : Int) = 0) := by omega
  refine callsIn_of_wp_marks Try.func13 rfl h23 ?_ hro
  simp only [Try.ntmps13, List.size_toArray, List.length_cons, List.length_nil, Nat.reduceAdd, Nat.reduceSub, Array.replicate_succ, Array.replicate_zero, List.push_toArray, List.append_toArray, List.nil_append, List.cons_append]
  gi_wp2_with fail
  gi_loop [4, 5, 15] (fun _ _ vi => ∃ i : Nat, vi = .int .i64 i ∧ i ≤ len) (fun _ _ vi => len - (intOf vi).toNat)
  case atStart => exact ⟨0, rfl, by omega⟩
  case round =>
    obtain ⟨i, rfl, hi⟩ := hrel
    by_cases hil : i < len
    · obtain ⟨x, hx⟩ : ∃ x, zs[i]? = some x := ⟨zs[i]'(by rw [HL.out]; exact hil), List.getElem?_eq_getElem _⟩
      obtain ⟨b, o, rfl, cx⟩ := ((hR.out.alloc (.cells #[.int .i64 0, .int .i64 0] 23)).alloc (.cells #[.int .i64 0] 25)) i (.int .i64 x) (by rw [List.getElem?_map, hx]; rfl)
      have hb : ¬ fBadAt x i := fun h => hok.out ⟨i, x, hx, h⟩
      unfold fBadAt at hb
      clear hx
      have d1 : decide (x < 0) = false := by simp; omega
      have d2 : decide (1000000 < x) = false := by simp; omega
      by_cases h0 : x = 0
      · have hx0 : (x == 0) = true := by simp [h0]
        obtain rfl : i = 0 := by omega
        rw [Nat.add_zero] at cx
        clear hb
        gi_wp2_with fail
        go_round
        case rel => exact ⟨0 + 1, by go_num, by omega⟩
        case measure => simp [intOf]; omega
      · have hx0 : (x == 0) = false := by simp [h0]
        clear hb
        gi_wp2_with fail
        go_round
        case rel => exact ⟨i + 1, by go_num, by omega⟩
        case measure => simp [intOf]; omega
    · obtain rfl : i = len := by omega
      gi_wp2_with (gi_at_call 73; refine (back_in F (n - 1) h93 hro _ _ _ _).mono ?_; rintro e w' ⟨rfl, rfl⟩)
      have hW0 : St w.heap.size 0 1 0 ((((w.alloc (.cells #[.int .i64 0, .int .i64 0] 23)).alloc (.cells #[.int .i64 0] 25)).alloc (.cells #[.int .i64 1, .int .i64 0] 23)).alloc (.cells #[.slice ao i cap] 24)) := by
        constructor
        · exact heap_alloc_old _ _ (heap_alloc_old _ _ (heap_alloc_old _ _ (heap_new' _ _ _ rfl)))
        · exact heap_alloc_old _ _ (heap_alloc_old _ _ (heap_new' _ _ _ (by simp)))
        · exact heap_alloc_old _ _ (heap_new' _ _ _ (by simp))
      have hB0 : Below w.heap.size w ((((w.alloc (.cells #[.int .i64 0, .int .i64 0] 23)).alloc (.cells #[.int .i64 0] 25)).alloc (.cells #[.int .i64 1, .int .i64 0] 23)).alloc (.cells #[.slice ao i cap] 24)) :=
        ((((Below.refl _ w).alloc (Nat.le_refl _) _).alloc (by simp) _).alloc (by simp; omega) _).alloc (by simp; omega) _
      have hbox : ((((w.alloc (.cells #[.int .i64 0, .int .i64 0] 23)).alloc (.cells #[.int .i64 0] 25)).alloc (.cells #[.int .i64 1, .int .i64 0] 23)).alloc (.cells #[.slice ao i cap] 24)).cell? ⟨w.heap.size + 1 + 1 + 1, 0, none⟩ = some (.slice ao i cap) := by
        rw [heap_cell (heap_new' _ _ _ (by simp)) 0]; rfl
      obtain ⟨W0, hW0e⟩ : ∃ W0, ((((w.alloc (.cells #[.int .i64 0, .int .i64 0] 23)).alloc (.cells #[.int .i64 0] 25)).alloc (.cells #[.int .i64 1, .int .i64 0] 23)).alloc (.cells #[.slice ao i cap] 24)) = W0 := ⟨_, rfl⟩
      have hsz : W0.heap.size = w.heap.size + 1 + 1 + 1 + 1 := by rw [← hW0e]; simp
      rw [hW0e] at hW0 hB0 hbox ⊢
      clear hW0e
      have hat : ∀ k, k < i → encB (atB zs hok.out k) = #[.int .i64 ((i - 1 - k : Nat) : Int), .int .i64 (zs[i - 1 - k]?.getD 0)] := by
        intro k _
        show #[Value.int .i64 ((zs.length - 1 - k : Nat) : Int), Value.int .i64 (zs[zs.length - 1 - k]?.getD 0)] = _
        rw [hl]
      have hIW : IntsB w.heap.size W0 ao cap zs := hI.below hB0
      refine wpIn_rangeFunc_ownG hro hn1 (gf := 121) (lb := #[.pointer (some ⟨w.heap.size + 1 + 1 + 1, 0, none⟩)]) rfl h151 (enters_of Try.func121 (by kernel_rfl) rfl)
        (back_stops encB (atB zs hok.out) F (n - 1) h151 hro (by omega) (w.heap.size + 1 + 1 + 1) w.heap.size i ao cap zs hl h63 hat W0 (by omega) (by omega) hbox hIW) KpB.trans (fun W l o o' h1 h2 h3 _ => ⟨belowK_b (by omega) W l o o' h1 h2 h3 (by assumption), World.putObj_heap_other (by omega)⟩) (Below.refl _ _) (fun _ => rfl)
        (fun pre W => (AllSm pre ∧ St w.heap.size 0 (foldB pre).1 (foldB pre).2 W) ∧ Below w.heap.size w W)
        (fun c pre W => (c = .ret ∧ (∃ k, k ≤ pre.length ∧ fBig (foldB (pre.take k)) ∧ ∀ j, j < k → fSm (foldB (pre.take j))) ∧ ∃ P Q, St w.heap.size 2 P Q W) ∧ Below w.heap.size w W)
        (OwnFrom.and (Own.from (fun s A B row hs hg hr => ⟨hs.1, hs.2.own hg hr⟩) _) (ownFrom_below (Nat.le_refl _) (by omega)))
        (fun c => OwnFrom.and (Own.from (fun s A B row hs hg hr => by obtain ⟨h1, h2, P, Q, h3⟩ := hs; exact ⟨h1, h2, P, Q, h3.own hg hr⟩) _) (ownFrom_below (Nat.le_refl _) (by omega)))
        ⟨⟨AllSm.nil, hW0⟩, hB0⟩ ?a1 ?assign ?body ?done ?stop
      case assign =>
        intro l x W K hK
        dsimp only [encB]
        gi_wp2
        exact hK
      case body =>
        rintro l pre ⟨⟨xi, x⟩, hx0, hx1⟩ W ⟨⟨hsm, hst⟩, hB⟩ hlen
        dsimp only at hx0 hx1 ⊢
        have hfs := foldB_snoc pre ⟨(xi, x), hx0, hx1⟩
        obtain ⟨PQ, hPQ⟩ : ∃ s, foldB pre = s := ⟨_, rfl⟩
        have hlast := hsm.last
        rw [hPQ] at hst hlast hfs
        obtain ⟨P, Q⟩ := PQ
        have hbd := fStep_bd hlast hx0 hx1
        dsimp only [fStep] at hfs hst hbd
        obtain ⟨p0, p1, q0, q1⟩ := hlast
        dsimp only at p0 p1 q0 q1
        have c1 : W.cell? ⟨w.heap.size + 1 + 1, 0, none⟩ = some (.int .i64 P) := heap_cell hst.x 0
        have c2 : W.cell? ⟨w.heap.size + 1 + 1, 1, none⟩ = some (.int .i64 Q) := heap_cell hst.x 1
        have f1 := heap_frozen hst.x 0
        have f2 := heap_frozen hst.x 1
        have c3 : W.cell? ⟨w.heap.size, 0, none⟩ = some (.int .i64 0) := heap_cell hst.r 0
        have c4 : W.cell? ⟨w.heap.size, 1, none⟩ = some (.int .i64 0) := heap_cell hst.r 1
        have f3 := heap_frozen hst.r 0
        have f4 := heap_frozen hst.r 1
        have c5 : W.cell? ⟨w.heap.size + 1, 0, none⟩ = some (.int .i64 0) := heap_cell hst.e 0
        have f5 := heap_frozen hst.e 0
        obtain ⟨m, hm⟩ : ∃ m, x * P = m := ⟨_, rfl⟩
        rw [hm] at hbd hfs
        have wm : IntKind.i64.wrap m = m := IntWalk.i64_in _ (by omega)
        have wa : IntKind.i64.wrap (m + Q) = m + Q := IntWalk.i64_in _ (by omega)
        have hx : (x * P) = m := hm
        have hset := hst.set (P' := m + Q) (Q' := P)
        clear hm
        by_cases hbig : 1000000 < m + Q
        · have d1 : decide (1000000 < m + Q) = true := by simp [hbig]
          gi_wp2
          refine ⟨(((((KeepsOthers.setCell _ _ _).trans (KeepsOthers.setCell _ _ _)).trans (KeepsOthers.setCell _ _ _)).trans (KeepsOthers.setCell _ _ _)).trans (KeepsOthers.setCell _ _ _)).from _, ⟨rfl, fSm_take _ hsm (by rw [hfs]; exact .inl hbig), m + Q, P, hset.ret rfl rfl⟩, below_set (below_set (below_set (below_set (below_set hB (by omega) _) (by omega) _) (by omega) _) (by omega) _) (by omega) _⟩
        · have d1 : decide (1000000 < m + Q) = false := by simp; omega
          have d2 : decide (1000000 < P) = false := by simp; omega
          gi_wp2
          have hfs2 : fSm (foldB (pre ++ [⟨(xi, x), hx0, hx1⟩])) := by rw [hfs]; exact ⟨by show 0 ≤ m + Q; omega, by show m + Q ≤ _; omega, p0, p1⟩
          refine ⟨((KeepsOthers.setCell _ _ _).trans (KeepsOthers.setCell _ _ _)).from _, ⟨below_set (below_set (Below.refl _ _) (by omega) _) (by omega) _, by rw [heap_set_far _ (by omega), heap_set_far _ (by omega)]⟩, ⟨hsm.snoc hfs2, by rw [hfs]; exact hset⟩, below_set (below_set hB (by omega) _) (by omega) _⟩
      case done =>
        rintro D ys W hD rfl ⟨⟨hsm, hst⟩, hB⟩ hK
        have c1 : W.cell? ⟨w.heap.size + 1 + 1, 0, none⟩ = some (.int .i64 (foldB (dnto (atB zs hok.out) i)).1) := heap_cell hst.x 0
        have c2 : W.cell? ⟨w.heap.size + 1 + 1, 1, none⟩ = some (.int .i64 (foldB (dnto (atB zs hok.out) i)).2) := heap_cell hst.x 1
        have c3 : W.cell? ⟨w.heap.size, 0, none⟩ = some (.int .i64 0) := heap_cell hst.r 0
        have c4 : W.cell? ⟨w.heap.size, 1, none⟩ = some (.int .i64 0) := heap_cell hst.r 1
        have f3 := heap_frozen hst.r 0
        have f4 := heap_frozen hst.r 1
        have c5 : W.cell? ⟨w.heap.size + 1, 0, none⟩ = some (.int .i64 0) := heap_cell hst.e 0
        have f5 := heap_frozen hst.e 0
        rw [foldB_dnto] at c1 c2 hst
        gi_wp2
        have hfin := hst.fin (c' := 0) (p := (fVal zs i).1) (q := (fVal zs i).2)
        obtain ⟨W', hW'⟩ : ∃ W', (((W.setCell ⟨w.heap.size, 0, none⟩ (.int .i64 (fVal zs i).1)).setCell ⟨w.heap.size, 1, none⟩ (.int .i64 (fVal zs i).2)).setCell ⟨w.heap.size + 1, 0, none⟩ (.int .i64 0)) = W' := ⟨_, rfl⟩
        have hK' : W'.heap[D]? = some (.deferred (some [])) := by rw [← hW']; exact (((KeepsOthers.setCell _ _ _).trans (KeepsOthers.setCell _ _ _)).trans (KeepsOthers.setCell _ _ _)).same D _ hK rfl
        have hB' : Below w.heap.size w W' := by rw [← hW']; exact below_set (below_set (below_set hB (by omega) _) (by omega) _) (by omega) _
        rw [hW'] at hfin ⊢
        clear hW'
        have r1 : (W'.putObj D (.deferred none)).heap[w.heap.size]? = _ := (World.putObj_heap_other (by omega)).trans hfin.1
        have r2 : (W'.putObj D (.deferred none)).heap[w.heap.size + 1]? = _ := (World.putObj_heap_other (by omega)).trans hfin.2
        have v1 := heap_cell r1 0
        have v2 := heap_cell r1 1
        have v3 := heap_cell r2 0
        simp only [List.getElem?_toArray, List.getElem?_cons_zero, List.getElem?_cons_succ] at v1 v2 v3
        refine ⟨by simp, .inl ⟨_, _, rfl, run_takeDeferred hK', ?_⟩⟩
        refine ⟨.tuple #[.agg #[.int .i64 (fVal zs i).1, .int .i64 (fVal zs i).2], .int .i64 0], ?_, .inl ⟨fun k hk => ?_, rfl, hB'.trans (belowK_b (w := w) (Nat.le_refl _) _ D _ _ (by omega) hK' rfl rfl)⟩⟩
        · simp [results, Try.f13, go_sem, v1, v2, v3]
        · have h := hsm k (by rw [dnto_length]; exact hk)
          rw [dnto_take _ hk, foldB_dnto] at h
          exact h
      case stop =>
        rintro D c pre W hD ⟨k, hk, rfl⟩ ⟨⟨rfl, ⟨j, hj, hbig, hsm⟩, P, Q, hst⟩, hB⟩ hK
        gi_wp2
        have r1 : (W.putObj D (.deferred none)).heap[w.heap.size]? = _ := (World.putObj_heap_other (by omega)).trans hst.r
        have r2 : (W.putObj D (.deferred none)).heap[w.heap.size + 1]? = _ := (World.putObj_heap_other (by omega)).trans hst.e
        have v1 := heap_cell r1 0
        have v2 := heap_cell r1 1
        have v3 := heap_cell r2 0
        simp only [List.getElem?_toArray, List.getElem?_cons_zero, List.getElem?_cons_succ] at v1 v2 v3
        refine ⟨by simp, .inl ⟨_, _, rfl, run_takeDeferred hK, ?_⟩⟩
        rw [dnto_length] at hj
        refine ⟨.tuple #[.agg #[.int .i64 0, .int .i64 0], .int .i64 2], ?_, .inr ⟨⟨j, by omega, ?_, fun a ha => ?_⟩, rfl, hB.trans (belowK_b (w := w) (Nat.le_refl _) _ D _ _ (by omega) hK rfl rfl)⟩⟩
        · simp [results, Try.f13, go_sem, v1, v2, v3]
        · rw [dnto_take _ hj, foldB_dnto] at hbig
          exact hbig
        · have h := hsm a ha
          rw [dnto_take _ (by omega), foldB_dnto] at h
          exact h
end Go.Proofs.Ytiljppeamdoocaa
