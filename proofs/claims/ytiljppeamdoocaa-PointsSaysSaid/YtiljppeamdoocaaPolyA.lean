/- poly.At: the range over slices.Backward, walked inside the wide fence. -/
import Derived.RangeFuncNested
import Derived.RangeFuncBound
import Derived.RangeFuncCalls
import Derived.Shelf.RegionOpen
import Derived.Test.YtiljppeamdoocaaBack
import Derived.Test.YtiljppeamdoocaaHeapM
import Derived.Test.YtiljppeamdoocaaPolyV
import Derived.Test.YtiljppeamdoocaaPolyL
namespace Go.Proofs.Ytiljppeamdoocaa
open Go.RowKit Go.Shelf
attribute [local go_sem] Oper.semAt_some

abbrev IdxA := { x : Int × Int // 0 ≤ x.2 ∧ x.2 ≤ 996 }
def encA (x : IdxA) : Array Value := #[.int .i64 x.1.1, .int .i64 x.1.2]
def foldA (z p : Int) (pre : List IdxA) : Int := pre.foldl (fun s x => (s * z + x.1.2) % p) 0
theorem foldA_snoc (z p : Int) (pre : List IdxA) (x : IdxA) : foldA z p (pre ++ [x]) = (foldA z p pre * z + x.1.2) % p := by unfold foldA; rw [List.foldl_append]; rfl
theorem foldA_bd (z : Int) {p : Int} (hp : 2 ≤ p) (hp2 : p ≤ 997) : ∀ pre : List IdxA, 0 ≤ foldA z p pre ∧ foldA z p pre ≤ 996 := by
  intro pre
  rcases List.eq_nil_or_concat pre with rfl | ⟨l, x, rfl⟩
  · exact ⟨Int.le_refl _, by show (0 : Int) ≤ 996; omega⟩
  · rw [List.concat_eq_append, foldA_snoc]
    exact pol_bd (by omega) hp2 _ rfl
def atA {p : Int} (hp : 2 ≤ p) (hp2 : p ≤ 997) (zs : List Int) (h : InF p zs) (k : Nat) : IdxA := ⟨(((zs.length - 1 - k : Nat) : Int), zs[zs.length - 1 - k]?.getD 0), by
  have h2 : 0 ≤ zs[zs.length - 1 - k]?.getD 0 ∧ zs[zs.length - 1 - k]?.getD 0 < p := h.co (by omega) (zs.length - 1 - k)
  show 0 ≤ zs[zs.length - 1 - k]?.getD 0 ∧ zs[zs.length - 1 - k]?.getD 0 ≤ 996
  omega⟩
theorem foldA_dnto (z : Int) {p : Int} (hp : 2 ≤ p) (hp2 : p ≤ 997) (zs : List Int) (h : InF p zs) : ∀ t, t ≤ zs.length → (evn z (co zs) (zs.length - t) + foldA z p (dnto (atA hp hp2 zs h) t) * z ^ (zs.length - t)) % p = evn z (co zs) zs.length % p
  | 0, _ => by
    show (evn z (co zs) (zs.length - 0) + 0 * z ^ (zs.length - 0)) % p = _
    rw [Int.zero_mul, Int.add_zero, Nat.sub_zero]
  | t + 1, ht => by
    have ih := foldA_dnto z hp hp2 zs h t (by omega)
    rw [dnto_succ, foldA_snoc]
    exact horner z p (co zs) zs.length t (by omega) _ ih (by omega)
theorem foldA_all (z : Int) {p : Int} (hp : 2 ≤ p) (hp2 : p ≤ 997) (zs : List Int) (h : InF p zs) : foldA z p (dnto (atA hp hp2 zs h) zs.length) = evp z zs % p := by
  have h1 := foldA_dnto z hp hp2 zs h zs.length (Nat.le_refl _)
  have hb := foldA_bd z hp hp2 (dnto (atA hp hp2 zs h) zs.length)
  rw [Nat.sub_self, Int.pow_zero, Int.mul_one] at h1
  show _ = evn z (co zs) zs.length % p
  rw [← h1]
  show _ = (0 + _) % p
  rw [Int.zero_add]
  rw [show evn z (co zs) zs.length % p = evn z (co zs) zs.length % p from rfl] at h1
  have h3 : 0 + foldA z p (dnto (atA hp hp2 zs h) zs.length) = foldA z p (dnto (atA hp hp2 zs h) zs.length) := Int.zero_add _
  by_cases hlt : foldA z p (dnto (atA hp hp2 zs h) zs.length) < p
  · exact (Int.emod_eq_of_lt hb.1 hlt).symm
  · exfalso
    rcases List.eq_nil_or_concat (dnto (atA hp hp2 zs h) zs.length) with e | ⟨l, x, e⟩
    · rw [e] at hlt
      exact hlt (by show (0 : Int) < p; omega)
    · rw [e, List.concat_eq_append, foldA_snoc] at hlt
      exact hlt (Int.emod_lt_of_pos _ (by omega))
/-- The cells of the call: p, x, and the value. -/
structure StA (H B : Nat) (P X O : Int) (W : World) : Prop where
  p : W.heap[H]? = some (.cells #[.int .i64 P] 3 (0, 0))
  x : W.heap[H + 1]? = some (.cells #[.int .i64 X] 3 (0, 0))
  o : W.heap[B]? = some (.cells #[.int .i64 O] 3 (0, 0))
theorem StA.own {H B : Nat} {P X O : Int} {A C : World} {row : Option Nat} (h : StA H B P X O A) (hg : A.grownBy C row) (hr : ∀ r, row = some r → ∃ o : Obj, A.heap[r]? = some o ∧ o.isCells = false) : StA H B P X O C :=
  ⟨(grownBy_keeps_cells hg hr h.p rfl).trans h.p, (grownBy_keeps_cells hg hr h.x rfl).trans h.x, (grownBy_keeps_cells hg hr h.o rfl).trans h.o⟩
theorem StA.set {H B : Nat} {P X O O' : Int} {W : World} (h : StA H B P X O W) (hB : H + 1 < B) : StA H B P X O' (W.setCell ⟨B, 0, none⟩ (.int .i64 O')) :=
  ⟨by rw [heap_set_far _ (by omega)]; exact h.p, by rw [heap_set_far _ (by omega)]; exact h.x, by rw [heap_set _ h.o]; rfl⟩
theorem two_boxes {w w1 : World} {p x : Int} (hb : Below ((w.alloc (.cells #[.int .i64 p] 3)).alloc (.cells #[.int .i64 x] 3)).heap.size ((w.alloc (.cells #[.int .i64 p] 3)).alloc (.cells #[.int .i64 x] 3)) w1) :
    w1.heap[w.heap.size]? = some (.cells #[.int .i64 p] 3 (0, 0)) ∧ w1.heap[w.heap.size + 1]? = some (.cells #[.int .i64 x] 3 (0, 0)) :=
  ⟨(hb.block _ (by rw [World.size_alloc, World.size_alloc]; omega)).trans (heap_alloc_old _ _ (heap_new' _ _ _ rfl)), (hb.block _ (by rw [World.size_alloc, World.size_alloc]; omega)).trans (heap_new' _ _ _ (by simp))⟩
set_option maxRecDepth 20000 in
set_option maxHeartbeats 1000000 in
theorem poly_At_bad (p : Int) (f : List Int) (x : Int) (ao : Option Addr) (nf ca : Nat) (w : World) (hp : (Lit.int .i64 p).wf = true) (hlf : f.length = nf) (h63 : nf ≤ 9223372036854775807) (hF : Hid (Reads w ao (f.map (Value.int .i64)))) (hc : polE p f ≠ 0) :
    Calls Try.prog 21 #[.int .i64 p, .slice ao nf ca, .int .i64 x] w fun e w' => e = .returned (.tuple #[.int .i64 0, .int .i64 (polE p f)]) ∧ Below w.heap.size w w' := by
  have hb2 : Below w.heap.size w ((w.alloc (.cells #[.int .i64 p] 3)).alloc (.cells #[.int .i64 x] 3)) := ((Below.refl _ w).alloc (Nat.le_refl _) _).alloc (by simp) _
  have HB2 := Lib.hid hb2
  have C1 := Lib.hid (poly_Check p f ao nf ca ((w.alloc (.cells #[.int .i64 p] 3)).alloc (.cells #[.int .i64 x] 3)) hp hlf h63 (hF.out.below hb2))
  obtain ⟨c, hcc⟩ : ∃ c, polE p f = c := ⟨_, rfl⟩
  rw [hcc] at C1 hc ⊢
  have hc0 : (c != 0) = true := by simp [hc]
  clear hp hlf hc hcc hb2
  go_enter Try.func21, Try.ntmps21
  go_wp2_with (go_at_call 39; refine C1.out.mono ?_; rintro e w' ⟨rfl, hb1⟩)
  go_ret2
  exact ⟨rfl, HB2.out.trans (hb1.mono HB2.out.size)⟩
set_option maxRecDepth 100000 in
set_option maxHeartbeats 2000000 in
theorem poly_At (p : Int) (f : List Int) (x : Int) (ao : Option Addr) (nf ca : Nat) (w : World) (hp : (Lit.int .i64 p).wf = true) (hx : (Lit.int .i64 x).wf = true) (hlf : f.length = nf) (hI0 : IntsB w.heap.size w ao ca f) (hF : Hid (Reads w ao (f.map (Value.int .i64)))) (hf : polE p f = 0) :
    Calls Try.prog 21 #[.int .i64 p, .slice ao nf ca, .int .i64 x] w fun e w' => e = .returned (.tuple #[.int .i64 (evp (x % p) f % p), .int .i64 0]) ∧ Below w.heap.size w w' := by
  have OF := Lib.hid (polOk_of hf)
  have p1 := OF.out.p1
  have p2 := OF.out.p2
  have l1 := OF.out.len
  rw [hlf] at l1
  have hxb : -9223372036854775808 ≤ x ∧ x ≤ 9223372036854775807 := by simpa [Lit.wf, IntKind.min, IntKind.max, IntKind.signed, IntKind.bits] using hx
  have hb2 : Below w.heap.size w ((w.alloc (.cells #[.int .i64 p] 3)).alloc (.cells #[.int .i64 x] 3)) := ((Below.refl _ w).alloc (Nat.le_refl _) _).alloc (by simp) _
  have HB2 := Lib.hid hb2
  have C1 := Lib.hid (poly_Check p f ao nf ca ((w.alloc (.cells #[.int .i64 p] 3)).alloc (.cells #[.int .i64 x] 3)) hp hlf (by omega) (hF.out.below hb2))
  rw [hf] at C1
  have C2 := Lib.hid (fun w => rest_Of x p w hxb.1 hxb.2 (by omega) (by omega))
  have z0 : 0 ≤ x % p := Int.emod_nonneg _ (by omega)
  have z1 : x % p < p := Int.emod_lt_of_pos _ (by omega)
  obtain ⟨z, hz⟩ : ∃ z, x % p = z := ⟨_, rfl⟩
  rw [hz] at C2 z0 z1 ⊢
  have HLF := Lib.hid hlf
  clear hp hx hlf hf hb2 hz hxb
  refine (callsIn_wide (n := 3)).1 ?_
  refine callsIn_of_wp_marks Try.func21 rfl trivial ?_ rfl
  simp only [Try.ntmps21, List.size_toArray, List.length_cons, List.length_nil, Nat.reduceAdd, Nat.reduceSub, Array.replicate_succ, Array.replicate_zero, List.push_toArray, List.append_toArray, List.nil_append, List.cons_append]
  gi_wp2_with (first | (refine ⟨trivial, ?_⟩; gi_at_call 39; refine (callsIn_wide.2 C1.out).mono ?_; rintro e w1 ⟨rfl, hb1⟩; obtain ⟨q1, q2⟩ := two_boxes hb1; have k1 : w1.cell? ⟨w.heap.size, 0, none⟩ = some (.int .i64 p) := heap_cell q1 0; have k2 : w1.cell? ⟨w.heap.size + 1, 0, none⟩ = some (.int .i64 x) := heap_cell q2 0) | (refine ⟨trivial, ?_⟩; gi_at_call 82; refine (callsIn_wide.2 (C2.out _)).mono ?_; rintro e w' ⟨rfl, n2, rfl⟩; have k3 : (w1.drewN n2).frozen? ⟨w.heap.size + 1, 0, none⟩ = false := heap_frozen q2 0; have k4 : (w1.drewN n2).cell? ⟨w.heap.size + 1, 0, none⟩ = some (.int .i64 x) := heap_cell q2 0) | (refine ⟨trivial, ?_⟩; gi_at_call 73; refine (back_in Fence.wide 2 trivial rfl _ _ _ _).mono ?_; rintro e w' ⟨rfl, rfl⟩))
  have hb1w : Below w.heap.size w w1 := HB2.out.trans (hb1.mono HB2.out.size)
  have hsz1 : w.heap.size + 2 ≤ w1.heap.size := by have := hb1.size; rw [World.size_alloc, World.size_alloc] at this; omega
  have hA0 : StA w.heap.size w1.heap.size p z 0 ((((w1.drewN n2).setCell ⟨w.heap.size + 1, 0, none⟩ (.int .i64 z)).alloc (.cells #[.int .i64 0] 3)).alloc (.cells #[.slice ao nf ca] 24)) := by
    constructor
    · refine heap_alloc_old _ _ (heap_alloc_old _ _ ?_)
      rw [heap_set_far _ (by omega)]; exact q1
    · refine heap_alloc_old _ _ (heap_alloc_old _ _ ?_)
      rw [heap_set (.int .i64 z) (show (w1.drewN n2).heap[w.heap.size + 1]? = _ from q2)]; rfl
    · exact heap_alloc_old _ _ (heap_new' _ _ _ (by simp))
  have hB0 : Below w.heap.size w ((((w1.drewN n2).setCell ⟨w.heap.size + 1, 0, none⟩ (.int .i64 z)).alloc (.cells #[.int .i64 0] 3)).alloc (.cells #[.slice ao nf ca] 24)) :=
    ((below_set (below_drewN hb1w n2) (by omega) _).alloc (by simp; omega) _).alloc (by simp; omega) _
  have hbox : ((((w1.drewN n2).setCell ⟨w.heap.size + 1, 0, none⟩ (.int .i64 z)).alloc (.cells #[.int .i64 0] 3)).alloc (.cells #[.slice ao nf ca] 24)).cell? ⟨w1.heap.size + 1, 0, none⟩ = some (.slice ao nf ca) := by
    rw [heap_cell (heap_new' _ _ _ (by simp)) 0]; rfl
  obtain ⟨W0, hW0e⟩ : ∃ W0, ((((w1.drewN n2).setCell ⟨w.heap.size + 1, 0, none⟩ (.int .i64 z)).alloc (.cells #[.int .i64 0] 3)).alloc (.cells #[.slice ao nf ca] 24)) = W0 := ⟨_, rfl⟩
  have hsz : W0.heap.size = w1.heap.size + 1 + 1 := by rw [← hW0e]; simp
  rw [hW0e] at hA0 hB0 hbox ⊢
  clear hW0e k1 k2 k3 k4 q1 q2 hb1 hb1w C1 C2 HB2
  obtain ⟨B9, hB9⟩ : ∃ B, w1.heap.size = B := ⟨_, rfl⟩
  rw [hB9] at hsz hsz1 hA0 hbox ⊢
  clear hB9
  have hin := OF.out.inF
  have hat : ∀ k, k < nf → encA (atA p1 p2 f hin k) = #[.int .i64 ((nf - 1 - k : Nat) : Int), .int .i64 (f[nf - 1 - k]?.getD 0)] := by
    intro k _
    show #[Value.int .i64 ((f.length - 1 - k : Nat) : Int), Value.int .i64 (f[f.length - 1 - k]?.getD 0)] = _
    rw [HLF.out]
  have hIW : IntsB w.heap.size W0 ao ca f := hI0.below hB0
  refine wpIn_rangeFunc_ownG (F := Fence.wide) rfl (by omega) (gf := 121) (lb := #[.pointer (some ⟨B9 + 1, 0, none⟩)]) rfl trivial (enters_of Try.func121 (by kernel_rfl) rfl)
    (back_stops encA (atA p1 p2 f hin) Fence.wide 2 trivial rfl (by omega) (B9 + 1) w.heap.size nf ao ca f HLF.out (by omega) hat W0 (by omega) (by omega) hbox hIW) KpB.trans (fun W l o o' h1 h2 h3 _ => ⟨belowK_b (by omega) W l o o' h1 h2 h3 (by assumption), World.putObj_heap_other (by omega)⟩) (Below.refl _ _) (fun _ => rfl)
    (fun pre W => StA w.heap.size B9 p z (foldA z p pre) W ∧ Below w.heap.size w W)
    (fun c pre W => False ∧ Below w.heap.size w W)
    (OwnFrom.and (Own.from (fun s A B row hs hg hr => hs.own hg hr) _) (ownFrom_below (Nat.le_refl _) (by omega)))
    (fun c => OwnFrom.and (Own.from (fun s A B row hs hg hr => hs.elim) _) (ownFrom_below (Nat.le_refl _) (by omega)))
    ⟨hA0, hB0⟩ ?a1 ?assign ?body ?done ?stop
  case assign =>
    intro l x W K hK
    dsimp only [encA]
    gi_wp2
    exact hK
  case body =>
    rintro l pre ⟨⟨xi, x⟩, hx0, hx1⟩ W ⟨hst, hB⟩ hlen
    dsimp only at hx0 hx1 ⊢
    have hfs := foldA_snoc z p pre ⟨(xi, x), hx0, hx1⟩
    have hbd := foldA_bd z p1 p2 pre
    obtain ⟨s, hs⟩ : ∃ s, foldA z p pre = s := ⟨_, rfl⟩
    rw [hs] at hst hbd hfs
    dsimp only at hfs
    have c1 : W.cell? ⟨w.heap.size, 0, none⟩ = some (.int .i64 p) := heap_cell hst.p 0
    have c2 : W.cell? ⟨w.heap.size + 1, 0, none⟩ = some (.int .i64 z) := heap_cell hst.x 0
    have c3 : W.cell? ⟨B9, 0, none⟩ = some (.int .i64 s) := heap_cell hst.o 0
    have f3 := heap_frozen hst.o 0
    have hm1 := mul_bd hbd.1 hbd.2 z0 (show z ≤ 996 by omega)
    obtain ⟨m, hm⟩ : ∃ m, s * z = m := ⟨_, rfl⟩
    rw [hm] at hm1 hfs
    have wm : IntKind.i64.wrap m = m := IntWalk.i64_in _ (by omega)
    have wa : IntKind.i64.wrap (m + x) = m + x := IntWalk.i64_in _ (by omega)
    obtain ⟨r, hr⟩ : ∃ r, (m + x) % p = r := ⟨_, rfl⟩
    have hp0 : ¬ p = 0 := by omega
    have hrt : Int.tmod (m + x) p = r := by rw [Int.tmod_eq_emod_of_nonneg (by omega)]; exact hr
    have hrb := pol_bd (by omega) p2 _ hr.symm
    have wr1 : IntKind.i64.wrap r = r := IntWalk.i64_in _ (by omega)
    rw [hr] at hfs
    have hset := hst.set (O' := r) (by omega)
    clear hr
    gi_wp2
    refine ⟨(KeepsOthers.setCell _ _ _).from _, ⟨below_set (Below.refl _ _) (by omega) _, by rw [heap_set_far _ (by omega)]⟩, by rw [hfs]; exact hset, below_set hB (by omega) _⟩
  case done =>
    rintro D ys W hD rfl ⟨hst, hB⟩ hK
    have hall := foldA_all z p1 p2 f hin
    rw [HLF.out] at hall
    rw [hall] at hst
    have c3 : W.cell? ⟨B9, 0, none⟩ = some (.int .i64 (evp z f % p)) := heap_cell hst.o 0
    gi_wp2
    refine ⟨by simp, .inl ⟨_, _, rfl, run_takeDeferred hK, ?_⟩⟩
    refine ⟨.tuple #[.int .i64 (evp z f % p), .int .i64 0], ?_, rfl, hB.trans (belowK_b (w := w) (Nat.le_refl _) _ D _ _ (by omega) hK rfl rfl)⟩
    simp [results, Try.f21, go_sem]
  case stop =>
    rintro D c pre W hD _ ⟨h, _⟩ hK
    exact h.elim
end Go.Proofs.Ytiljppeamdoocaa
