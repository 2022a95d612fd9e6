/- poly.At: the range over slices.Backward, walked inside the wide fence. -/
import Derived.RangeFuncNested
import Derived.RangeFuncBound
import Derived.RangeFuncCalls
import Derived.Shelf.RegionOpen
import Derived.Test.YtiljppeamdoocaaSecM6
import Derived.Test.YtiljppeamdoocaaSecM5
import Derived.Test.YtiljppeamdoocaaSecM3
namespace Go.Proofs.Ytiljppeamdoocaa
open Go.RowKit Go.Shelf
attribute [local go_sem] Oper.semAt_some

abbrev IdxA := { x : Int × Int // 0 ≤ x.2 ∧ x.2 ≤ 996 }
def encA (x : IdxA) : Array Value := #[.int .i64 x.1.1, .int .i64 x.1.2]
def foldA (z p : Int) (pre : List IdxA) : Int := pre.foldl (fun s x => (s * z + x.1.2) % p) 0
theorem foldA_snoc (z p : Int) (pre : List IdxA) (x : IdxA) : foldA z p (pre ++ [x]) = (foldA z p pre * z + x.1.2) % p := by unfold foldA; rw [List.foldl_append]; rfl
theorem foldA_bd (z : Int) {p : Int} (hp : 2 ≤ p) (hp2 : p ≤ 997) : ∀ pre : List IdxA, 0 ≤ foldA z p pre ∧ foldA z p pre ≤ 996 := by
  intro pre
  rcases List.eq_nil_or_concat pre with rfl | ⟨l, x, rfl⟩
  · exact ⟨Int.le_refl _, by show (0 : Int) ≤ 996; omega⟩
  · rw [List.concat_eq_append, foldA_snoc]
    exact pol_bd (by omega) hp2 _ rfl
def atA {p : Int} (hp : 2 ≤ p) (hp2 : p ≤ 997) (zs : List Int) (h : InF p zs) (k : Nat) : IdxA := ⟨(((zs.length - 1 - k : Nat) : Int), zs[zs.length - 1 - k]?.getD 0), by
  have h2 : 0 ≤ zs[zs.length - 1 - k]?.getD 0 ∧ zs[zs.length - 1 - k]?.getD 0 < p := h.co (by omega) (zs.length - 1 - k)
  show 0 ≤ zs[zs.length - 1 - k]?.getD 0 ∧ zs[zs.length - 1 - k]?.getD 0 ≤ 996
  omega⟩
theorem foldA_dnto (z : Int) {p : Int} (hp : 2 ≤ p) (hp2 : p ≤ 997) (zs : List Int) (h : InF p zs) : ∀ t, t ≤ zs.length → (evn z (co zs) (zs.length - t) + foldA z p (dnto (atA hp hp2 zs h) t) * z ^ (zs.length - t)) % p = evn z (co zs) zs.length % p
  | 0, _ => by
    show (evn z (co zs) (zs.length - 0) + 0 * z ^ (zs.length - 0)) % p = _
    rw [Int.zero_mul, Int.add_zero, Nat.sub_zero]
  | t + 1, ht => by
    have ih := foldA_dnto z hp hp2 zs h t (by omega)
    rw [dnto_succ, foldA_snoc]
    exact horner z p (co zs) zs.length t (by omega) _ ih (by omega)
theorem foldA_all (z : Int) {p : Int} (hp : 2 ≤ p) (hp2 : p ≤ 997) (zs : List Int) (h : InF p zs) : foldA z p (dnto (atA hp hp2 zs h) zs.length) = evp z zs % p := by
  have h1 := foldA_dnto z hp hp2 zs h zs.length (Nat.le_refl _)
  have hb := foldA_bd z hp hp2 (dnto (atA hp hp2 zs h) zs.length)
  rw [Nat.sub_self, Int.pow_zero, Int.mul_one] at h1
  show _ = evn z (co zs) zs.length % p
  rw [← h1]
  show _ = (0 + _) % p
  rw [Int.zero_add]
  rw [show evn z (co zs) zs.length % p = evn z (co zs) zs.length % p from rfl] at h1
  have h3 : 0 + foldA z p (dnto (atA hp hp2 zs h) zs.length) = foldA z p (dnto (atA hp hp2 zs h) zs.length) := Int.zero_add _
  by_cases hlt : foldA z p (dnto (atA hp hp2 zs h) zs.length) < p
  · exact (Int.emod_eq_of_lt hb.1 hlt).symm
  · exfalso
    rcases List.eq_nil_or_concat (dnto (atA hp hp2 zs h) zs.length) with e | ⟨l, x, e⟩
    · rw [e] at hlt
      exact hlt (by show (0 : Int) < p; omega)
    · rw [e, List.concat_eq_append, foldA_snoc] at hlt
      exact hlt (Int.emod_lt_of_pos _ (by omega))
/-- The cells of the call: p, x, and the value. -/
structure StA (H B : Nat) (P X O : Int) (W : World) : Prop where
  p : W.heap[H]? = some (.cells #[.int .i64 P] 3 (0, 0))
  x : W.heap[H + 1]? = some (.cells #[.int .i64 X] 3 (0, 0))
  o : W.heap[B]? = some (.cells #[.int .i64 O] 3 (0, 0))
theorem StA.own {H B : Nat} {P X O : Int} {A C : World} {row : Option Nat} (h : StA H B P X O A) (hg : A.grownBy C row) (hr : ∀ r, row = some r → ∃ o : Obj, A.heap[r]? = some o ∧ o.isCells = false) : StA H B P X O C :=
  ⟨(grownBy_keeps_cells hg hr h.p rfl).trans h.p, (grownBy_keeps_cells hg hr h.x rfl).trans h.x, (grownBy_keeps_cells hg hr h.o rfl).trans h.o⟩
theorem StA.set {H B : Nat} {P X O O' : Int} {W : World} (h : StA H B P X O W) (hB : H + 1 < B) : StA H B P X O' (W.setCell ⟨B, 0, none⟩ (.int .i64 O')) :=
  ⟨by rw [heap_set_far _ (by omega)]; exact h.p, by rw [heap_set_far _ (by omega)]; exact h.x, by rw [heap_set _ h.o]; rfl⟩
theorem two_boxes {w w1 : World} {p x : Int} (hb : Below ((w.alloc (.cells #[.int .i64 p] 3)).alloc (.cells #[.int .i64 x] 3)).heap.size ((w.alloc (.cells #[.int .i64 p] 3)).alloc (.cells #[.int .i64 x] 3)) w1) :
    w1.heap[w.heap.size]? = some (.cells #[.int .i64 p] 3 (0, 0)) ∧ w1.heap[w.heap.size + 1]? = some (.cells #[.int .i64 x] 3 (0, 0)) :=
  ⟨(hb.block _ (by rw [World.size_alloc, World.size_alloc]; omega)).trans (heap_alloc_old _ _ (heap_new' _ _ _ rfl)), (hb.block _ (by rw [World.size_alloc, World.size_alloc]; omega)).trans (heap_new' _ _ _ (by simp))⟩
set_option maxRecDepth 20000 in
set_option maxHeartbeats 1000000 in
theorem poly_At_bad (p : Int) (f : List Int) (x : Int) (ao : Option Addr) (nf ca : Nat) (w : World) (hp : (Lit.int .i64 p).wf = true) (hlf : f.length = nf) (h63 : nf ≤ 9223372036854775807) (hF : Hid (Reads w ao (f.map (Value.int .i64)))) (hc : polE p f ≠ 0) :
    Calls Try.prog 21 #[.int .i64 p, .slice ao nf ca, .int .i64 x] w fun e w' => e = .returned (.tuple #[.int .i64 0, .int .i64 (polE p f)]) ∧ Below w.heap.size w w' := by
  have hb2 : Below w.heap.size w ((w.alloc (.cells #[.int .i64 p] 3)).alloc (.cells #[.int .i64 x] 3)) := ((Below.refl _ w).alloc (Nat.le_refl _) _).alloc (by simp) _
  have HB2 := Lib.hid hb2
  have C1 := Lib.hid (poly_Check p f ao nf ca ((w.alloc (.cells #[.int .i64 p] 3)).alloc (.cells #[.int .i64 x] 3)) hp hlf h63 (hF.out.below hb2))
  obtain ⟨c, hcc⟩ : ∃ c, polE p f = c := ⟨_, rfl⟩
  rw [hcc] at C1 hc ⊢
  have hc0 : (c != 0) = true := by simp [hc]
  clear hp hlf hc hcc hb2
  go_enter Try.func21, Try.ntmps21
  go_wp2_with (go_at_call 39; refine C1.out.mono ?_; rintro e w' ⟨rfl, hb1⟩)
  go_ret2
  exact ⟨rfl, HB2.out.trans (hb1.mono HB2.out.size)⟩
set_option maxRecDepth 100000 in
set_option maxHeartbeats 2000000 in
theorem poly_At (p : Int) (f : List Int) (x : Int) (ao : Option Addr) (nf ca : Nat) (w : World) (hp : (Lit.int .i64 p).wf = true) (hx : (Lit.int .i64 x).wf = true) (hlf : f.length = nf) (hI0 : IntsB w.heap.size w ao ca f) (hF : Hid (Reads w ao (f.map (Value.int .i64)))) (hf : polE p f = 0) :
    Calls Try.prog 21 #[.int .i64 p, .slice ao nf ca, .int .i64 x] w fun e w' => e = .returned (.tuple #[.int .i64 (evp (x % p) f % p), .int .i64 0]) ∧ Below w.heap.size w w' := by
  have OF := Lib.hid (polOk_of hf)
  have p1 := OF.out.p1
  have p2 := OF.out.p2
  have l1 := OF.out.len
  rw [hlf] at l1
  have hxb : -9223372036854775808 ≤ x ∧ x ≤ 9223372036854775807 := by simpa [Lit.wf, IntKind.min, IntKind.max, IntKind.signed, IntKind.bits] using hx
  have hb2 : Below w.heap.size w ((w.alloc (.cells #[.int .i64 p] 3)).alloc (.cells #[.int .i64 x] 3)) := ((Below.refl _ w).alloc (Nat.le_refl _) _).alloc (by simp) _
  have HB2 := Lib.hid hb2
  have C1 := Lib.hid (poly_Check p f ao nf ca ((w.alloc (.cells #[.int .i64 p] 3)).alloc (.cells #[.int .i64 x] 3)) hp hlf (by omega) (hF.out.below hb2))
  rw [hf] at C1
  have C2 := Lib.hid (fun w => rest_Of x p w hxb.1 hxb.2 (by omega) (by omega))
  have z0 : 0 ≤ x % p := Int.emod_nonneg _ (by omega)
  have z1 : x % p < p := Int.emod_lt_of_pos _ (by omega)
  obtain ⟨z, hz⟩ : ∃ z, x % p = z := ⟨_, rfl⟩
  rw [hz] at C2 z0 z1 ⊢
  have HLF := Lib.hid hlf
  clear hp hx hlf hf hb2 hz hxb
  refine (callsIn_wide (n := 3)).1 ?_
  refine callsIn_of_wp_marks Try.func21 rfl trivial ?_ rfl
  simp only [Try.ntmps21, List.size_toArray, List.length_cons, List.length_nil, Nat.reduceAdd, Nat.reduceSub, Array.replicate_succ, Array.replicate_zero, List.push_toArray, List.append_toArray, List.nil_append, List.cons_append]
  gi_wp2_with (first | (refine ⟨trivial, ?_⟩; gi_at_call 39; refine (callsIn_wide.2 C1.out).mono ?_; rintro e w1 ⟨rfl, hb1⟩; obtain ⟨q1, q2⟩ := two_boxes hb1; have k1 : w1.cell? ⟨w.heap.size, 0, none⟩ = some (.int .i64 p) := heap_cell q1 0; have k2 : w1.cell? ⟨w.heap.size + 1, 0, none⟩ = some (.int .i64 x) := heap_cell q2 0) | (refine ⟨trivial, ?_⟩; gi_at_call 82; refine (callsIn_wide.2 (C2.out _)).mono ?_; rintro e w' ⟨rfl, n2, rfl⟩; have k3 : (w1.drewN n2).frozen? ⟨w.heap.size + 1, 0, none⟩ = false := heap_frozen q2 0; have k4 : (w1.drewN n2).cell? ⟨w.heap.size + 1, 0, none⟩ = some (.int .i64 x) := heap_cell q2 0) | (refine ⟨trivial, ?_⟩; gi_at_call 73; refine (back_in Fence.wide 2 trivial rfl _ _ _ _).mono ?_; rintro e w' ⟨rfl, rfl⟩))
  have hb1w : Below w.heap.size w w1 := HB2.out.trans (hb1.mono HB2.out.size)
  have hsz1 : w.heap.size + 2 ≤ w1.heap.size := by have := hb1.size; rw [World.size_alloc, World.size_alloc] at this; omega
  have hA0 : StA w.heap.size w1.heap.size p z 0 ((((w1.drewN n2).setCell ⟨w.heap.size + 1, 0, none⟩ (.int .i64 z)).alloc (.cells #[.int .i64 0] 3)).alloc (.cells #[.slice ao nf ca] 24)) := by
    constructor
    · refine heap_alloc_old _ _ (heap_alloc_old _ _ ?_)
      rw [heap_set_far _ (by omega)]; exact q1
    · refine heap_alloc_old _ _ (heap_alloc_old _ _ ?_)
      rw [heap_set (.int .i64 z) (show (w1.drewN n2).heap[w.heap.size + 1]? = _ from q2)]; rfl
    · exact heap_alloc_old _ _ (heap_new' _ _ _ (by simp))
  have hB0 : Below w.heap.size w ((((w1.drewN n2).setCell ⟨w.heap.size + 1, 0, none⟩ (.int .i64 z)).alloc (.cells #[.int .i64 0] 3)).alloc (.cells #[.slice ao nf ca] 24)) :=
    ((below_set (below_drewN hb1w n2) (by omega) _).alloc (by simp; omega) _).alloc (by simp; omega) _
  have hbox : ((((w1.drewN n2).setCell ⟨w.heap.size + 1, 0, none⟩ (.int .i64 z)).alloc (.cells #[.int .i64 0] 3)).alloc (.cells #[.slice ao nf ca] 24)).cell? ⟨w1.heap.size + 1, 0, none⟩ = some (.slice ao nf ca) := by
    rw [heap_cell (heap_new' _ _ _ (by simp)) 0]; rfl
  obtain ⟨W0, hW0e⟩ : ∃ W0, ((((w1.drewN n2).setCell ⟨w.heap.size + 1, 0, none⟩ (.int .i64 z)).alloc (.cells #[.int .i64 0] 3)).alloc (.cells #[.slice ao nf ca] 24)) = W0 := ⟨_, rfl⟩
  have hsz : W0.heap.size = w1.heap.size + 1 + 1 := by rw [← hW0e]; simp
  rw [hW0e] at hA0 hB0 hbox ⊢
  clear hW0e k1 k2 k3 k4 q1 q2 hb1 hb1w C1 C2 HB2
  obtain ⟨B9, hB9⟩ : ∃ B, w1.heap.size = B := ⟨_, rfl⟩
  rw [hB9] at hsz hsz1 hA0 hbox ⊢
  clear hB9
  have hin := OF.out.inF
  have hat : ∀ k, k < nf → encA (atA p1 p2 f hin k) = #[.int .i64 ((nf - 1 - k : Nat) : Int), .int .i64 (f[nf - 1 - k]?.getD 0)] := by
    intro k _
    show #[Value.int .i64 ((f.length - 1 - k : Nat) : Int), Value.int .i64 (f[f.length - 1 - k]?.getD 0)] = _
    rw [HLF.out]
  have hIW : IntsB w.heap.size W0 ao ca f := hI0.below hB0
  refine wpIn_rangeFunc_ownG (F := Fence.wide) rfl (by omega) (gf := 121) (lb := #[.pointer (some ⟨B9 + 1, 0, none⟩)]) rfl trivial (enters_of Try.func121 (by kernel_rfl) rfl)
    (back_stops encA (atA p1 p2 f hin) Fence.wide 2 trivial rfl (by omega) (B9 + 1) w.heap.size nf ao ca f HLF.out (by omega) hat W0 (by omega) (by omega) hbox hIW) KpB.trans (fun W l o o' h1 h2 h3 _ => ⟨belowK_b (by omega) W l o o' h1 h2 h3 (by assumption), World.putObj_heap_other (by omega)⟩) (Below.refl _ _) (fun _ => rfl)
    (fun pre W => StA w.heap.size B9 p z (foldA z p pre) W ∧ Below w.heap.size w W)
    (fun c pre W => False ∧ Below w.heap.size w W)
    (OwnFrom.and (Own.from (fun s A B row hs hg hr => hs.own hg hr) _) (ownFrom_below (Nat.le_refl _) (by omega)))
    (fun c => OwnFrom.and (Own.from (fun s A B row hs hg hr => hs.elim) _) (ownFrom_below (Nat.le_refl _) (by omega)))
    ⟨hA0, hB0⟩ ?a1 ?assign ?body ?done ?stop
  case assign =>
    intro l x W K hK
    dsimp only [encA]
    gi_wp2
    exact hK
  case body =>
    rintro l pre ⟨⟨xi, x⟩, hx0, hx1⟩ W ⟨hst, hB⟩ hlen
    dsimp only at hx0 hx1 ⊢
    have hfs := foldA_snoc z p pre ⟨(xi, x), hx0, hx1⟩
    have hbd := foldA_bd z p1 p2 pre
    obtain ⟨s, hs⟩ : ∃ s, foldA z p pre = s := ⟨_, rfl⟩
    rw [hs] at hst hbd hfs
    dsimp only at hfs
    have c1 : W.cell? ⟨w.heap.size, 0, none⟩ = some (.int .i64 p) := heap_cell hst.p 0
    have c2 : W.cell? ⟨w.heap.size + 1, 0, none⟩ = some (.int .i64 z) := heap_cell hst.x 0
    have c3 : W.cell? ⟨B9, 0, none⟩ = some (.int .i64 s) := heap_cell hst.o 0
    have f3 := heap_frozen hst.o 0
    have hm1 := mul_bd hbd.1 hbd.2 z0 (show z ≤ 996 by omega)
    obtain ⟨m, hm⟩ : ∃ m, s * z = m := ⟨_, rfl⟩
    rw [hm] at hm1 hfs
    have wm : IntKind.i64.wrap m = m := IntWalk.i64_in _ (by omega)
    have wa : IntKind.i64.wrap (m + x) = m + x := IntWalk.i64_in _ (by omega)
    obtain ⟨r, hr⟩ : ∃ r, (m + x) % p = r := ⟨_, rfl⟩
    have hp0 : ¬ p = 0 := by omega
    have hrt : Int.tmod (m + x) p = r := by rw [Int.tmod_eq_emod_of_nonneg (by omega)]; exact hr
    have hrb := pol_bd (by omega) p2 _ hr.symm
    have wr1 : IntKind.i64.wrap r = r := IntWalk.i64_in _ (by omega)
    rw [hr] at hfs
    have hset := hst.set (O' := r) (by omega)
    clear hr
    gi_wp2
    refine ⟨(KeepsOthers.setCell _ _ _).from _, ⟨below_set (Below.refl _ _) (by omega) _, by rw [heap_set_far _ (by omega)]⟩, by rw [hfs]; exact hset, below_set hB (by omega) _⟩
  case done =>
    rintro D ys W hD rfl ⟨hst, hB⟩ hK
    have hall := foldA_all z p1 p2 f hin
    rw [HLF.out] at hall
    rw [hall] at hst
    have c3 : W.cell? ⟨B9, 0, none⟩ = some (.int .i64 (evp z f % p)) := heap_cell hst.o 0
    gi_wp2
    refine ⟨by simp, .inl ⟨_, _, rfl, run_takeDeferred hK, ?_⟩⟩
    refine ⟨.tuple #[.int .i64 (evp z f % p), .int .i64 0], ?_, rfl, hB.trans (belowK_b (w := w) (Nat.le_refl _) _ D _ _ (by omega) hK rfl rfl)⟩
    simp [results, Try.f21, go_sem]
  case stop =>
    rintro D c pre W hD _ ⟨h, _⟩ hK
    exact h.elim
end Go.Proofs.Ytiljppeamdoocaa
namespace Go.Proofs.Ytiljppeamdoocaa
open Go.RowKit

def xs (l : Pts) (k : Nat) : Int := (l[k]?.getD (0, 0)).1
def ys (l : Pts) (k : Nat) : Int := (l[k]?.getD (0, 0)).2
theorem xs_get {l : Pts} {k : Nat} {z : Int × Int} (h : l[k]? = some z) : xs l k = z.1 := by unfold xs; rw [h]; rfl
theorem ys_get {l : Pts} {k : Nat} {z : Int × Int} (h : l[k]? = some z) : ys l k = z.2 := by unfold ys; rw [h]; rfl
theorem pts_get {l : Pts} {k : Nat} (h : k < l.length) : l[k]? = some (xs l k, ys l k) := by
  unfold xs ys
  rw [List.getElem?_eq_getElem h]; rfl
theorem PtsOk.xb {p : Int} {l : Pts} (h : PtsOk p l) {k : Nat} (hk : k < l.length) : 0 ≤ xs l k ∧ xs l k < p ∧ 0 ≤ ys l k ∧ ys l k < p := h.bd k _ (pts_get hk)
theorem PtsOk.xne {p : Int} {l : Pts} (h : PtsOk p l) {i k : Nat} (hi : i < l.length) (hk : k < l.length) (hne : k ≠ i) : ¬ p ∣ xs l i - xs l k := by
  have h1 := h.xb hi
  have h2 := h.xb hk
  refine diff_ne (by have := h.p1; omega) h1.1 h1.2.1 h2.1 h2.2.1 ?_
  rcases Nat.lt_or_gt_of_ne hne with hlt | hlt
  · exact fun e => h.ne i k _ _ hlt (pts_get hi) (pts_get hk) e.symm
  · exact fun e => h.ne k i _ _ hlt (pts_get hk) (pts_get hi) e
noncomputable def ivI (p : Int) (l : Pts) (i : Nat) : Int := bezX (pz (xs l) i (xs l i) l.length % p) p
theorem ivI_ok {p : Int} {l : Pts} (h : PtsOk p l) {i : Nat} (hi : i < l.length) : 0 ≤ ivI p l i ∧ ivI p l i < p ∧ ivI p l i * pz (xs l) i (xs l i) l.length % p = 1 ∧ gI (pz (xs l) i (xs l i) l.length % p) p = 1 := by
  have h1 := h.p1
  have hn := pz_ne h.pr (by omega) (xs l) i l.length fun k hk hne => h.xne hi hk hne
  have h0 : 0 ≤ pz (xs l) i (xs l i) l.length % p := Int.emod_nonneg _ (by omega)
  have h2 : pz (xs l) i (xs l i) l.length % p < p := Int.emod_lt_of_pos _ (by omega)
  have h3 : pz (xs l) i (xs l i) l.length % p ≠ 0 := fun e => hn (Int.dvd_of_emod_eq_zero e)
  have hg := gI_prime h.pr (show 0 < pz (xs l) i (xs l i) l.length % p by omega) h2
  rw [Int.emod_emod_of_dvd _ (Int.dvd_refl p)] at hg
  obtain ⟨b1, b2, b3⟩ := bez_inv (show 1 ≤ p by omega) hg
  refine ⟨b1, b2, ?_, hg⟩
  have e1 : (1 : Int) % p = 1 := Int.emod_eq_of_lt (by omega) (by omega)
  rw [e1] at b3
  unfold ivI
  generalize bezX (pz (xs l) i (xs l i) l.length % p) p = x at b3 ⊢
  rw [Int.mul_emod, Int.emod_emod_of_dvd _ (Int.dvd_refl p), ← Int.mul_emod] at b3
  exact b3
noncomputable def vI (p : Int) (l : Pts) (i : Nat) : Int := ys l i * ivI p l i
def thrV (p : Int) (l : Pts) (V : Nat → Int) (i : Nat) (S : Nat → Int) : Prop := (∀ k, 0 ≤ S k ∧ S k < p) ∧ ∀ z, evn z S l.length % p = lsum (xs l) V l.length z i % p
/-- What Through answers. -/
def ThrIs (p : Int) (l : Pts) (h : List Int) : Prop := Trm h ∧ InF p h ∧ h.length ≤ l.length ∧ ∀ z, evp z h % p = lsum (xs l) (vI p l) l.length z l.length % p
theorem thr_end {p : Int} {l : Pts} (hp : 0 < p) {S : Nat → Int} (h : thrV p l (vI p l) l.length S) : ThrIs p l (trim (mkL l.length S)) := by
  have hc : ∀ k, co (trim (mkL l.length S)) k = if k < l.length then S k else 0 := fun k => by rw [co_trim, co_mkL]
  have hl : (trim (mkL l.length S)).length ≤ l.length := by
    rw [length_trim]
    exact Nat.le_trans (tlen_le _) (by rw [mkL_length]; exact Nat.le_refl _)
  refine ⟨trm_trim _, InF.of_co fun k => ?_, hl, fun z => ?_⟩
  · rw [hc]
    split
    · exact h.1 k
    · omega
  · rw [← evp_more z _ hl, evn_congr z p (d := S) _ (fun k hk => by rw [hc, if_pos hk])]
    exact h.2 z
def addI (p : Int) (S : Nat → Int) (F : List Int) (v : Int) (j k : Nat) : Int := if k < j then (S k + co F k * v) % p else S k
theorem addI_step (p : Int) (S : Nat → Int) (F : List Int) (v : Int) (j k : Nat) : addI p S F v (j + 1) k = if k = j then (S j + co F j * v) % p else addI p S F v j k := by
  unfold addI
  by_cases h : k = j
  · subst h; rw [if_pos rfl, if_pos (by omega)]
  · rw [if_neg h]
    by_cases h2 : k < j
    · rw [if_pos h2, if_pos (by omega)]
    · rw [if_neg h2, if_neg (by omega)]
theorem thr_step {p : Int} {l : Pts} (hp : 0 < p) {S : Nat → Int} {F : List Int} {i : Nat} (h : thrV p l (vI p l) i S) (hl : F.length ≤ l.length) (hF : ∀ z, evp z F % p = ys l i * pz (xs l) i z l.length % p) : thrV p l (vI p l) (i + 1) (addI p S F (ivI p l i) F.length) := by
  have hm : ∀ k, addI p S F (ivI p l i) F.length k % p = (S k + co F k * ivI p l i) % p := by
    intro k
    unfold addI
    split
    · rw [Int.emod_emod_of_dvd _ (Int.dvd_refl p)]
    · rw [co_out (by omega), Int.zero_mul, Int.add_zero]
  refine ⟨fun k => ?_, fun z => ?_⟩
  · unfold addI
    split
    · exact ⟨Int.emod_nonneg _ (by omega), Int.emod_lt_of_pos _ hp⟩
    · exact h.1 k
  · rw [evn_congr z p (d := fun k => S k + co F k * ivI p l i) _ (fun k _ => hm k), evn_add, evn_smul, evp_more z F hl, Int.add_emod, h.2 z, Int.mul_emod, hF z, ← Int.mul_emod, ← Int.add_emod]
    show _ = (lsum (xs l) (vI p l) l.length z i + vI p l i * pz (xs l) i z l.length) % p
    unfold vI
    congr 2
    grind
theorem pz_succ (X : Nat → Int) (i : Nat) (z : Int) (k : Nat) : pz X i z (k + 1) = if k = i then pz X i z k else pz X i z k * (z - X k) := rfl
theorem fac_step {p : Int} {l : Pts} {F F' : List Int} {a : Int} {i k : Nat} (hk : k ≠ i) (ha : a % p = (p - xs l k) % p) (hF : ∀ z, evp z F % p = ys l i * pz (xs l) i z k % p) (hp : IsPol p (conv F [a, 1]) F') : ∀ z, evp z F' % p = ys l i * pz (xs l) i z (k + 1) % p := by
  intro z
  rw [evp_pair hp, Int.mul_emod, hF z, Int.add_emod, ha, ← Int.add_emod, ← Int.mul_emod]
  rw [pz_succ, if_neg hk]
  have e : ys l i * pz (xs l) i z k * (p - xs l k + z) = ys l i * (pz (xs l) i z k * (z - xs l k)) + p * (ys l i * pz (xs l) i z k) := by grind
  rw [e, Int.add_mul_emod_self_left]
theorem fac_len {p : Int} {F F' : List Int} {a : Int} (hp : IsPol p (conv F [a, 1]) F') : F'.length ≤ F.length + 1 := hp.len fun k hk => by
  rw [conv_pair]
  unfold shf
  rw [if_pos (by omega), co_out (by omega), co_out (by omega)]
  simp
theorem d_step {p d : Int} {l : Pts} {i k : Nat} (hk : k ≠ i) (hd : d = pz (xs l) i (xs l i) k % p) : d * (xs l i - xs l k + p) % p = pz (xs l) i (xs l i) (k + 1) % p := by
  rw [pz_succ, if_neg hk, hd, Int.mul_emod, Int.emod_emod_of_dvd _ (Int.dvd_refl p), ← Int.mul_emod]
  have e : pz (xs l) i (xs l i) k * (xs l i - xs l k + p) = pz (xs l) i (xs l i) k * (xs l i - xs l k) + p * pz (xs l) i (xs l i) k := by grind
  rw [e, Int.add_mul_emod_self_left]
set_option maxRecDepth 20000 in
set_option maxHeartbeats 1000000 in
theorem points_Through_bad (p : Int) (l : Pts) (n : Nat) (ao : Option Addr) (cap : Nat) (w : World) (hp : (Lit.int .i64 p).wf = true) (hl : l.length = n) (h63 : n ≤ 9223372036854775807) (hc : n ≤ cap) (hR : Hid (Reads w ao (cells2 (l.map pV)))) (hb : ptsE p l ≠ 0) :
    Calls Try.prog 19 #[.int .i64 p, .slice ao n cap] w fun e w' => e = .returned (.tuple #[.slice none 0 0, .int .i64 (ptsE p l)]) ∧ Below w.heap.size w w' := by
  have C1 := Lib.hid (points_Check p l n ao cap w hp hl h63 hc hR)
  obtain ⟨c, hcc⟩ : ∃ c, ptsE p l = c := ⟨_, rfl⟩
  rw [hcc] at C1 hb ⊢
  have hc0 : (c != 0) = true := by simp [hb]
  clear hp hl hb hcc
  go_enter Try.func19, Try.ntmps19
  go_wp2_with (go_at_call 49; refine C1.out.mono ?_; rintro e w' ⟨rfl, hb1⟩)
  go_ret2
  exact ⟨rfl, hb1⟩
def ThrPost (p : Int) (l : Pts) (w : World) (e : Ending) (w' : World) : Prop :=
  ∃ h v, ThrIs p l h ∧ Below w.heap.size w w' ∧ e = .returned (.tuple #[v, .int .i64 0]) ∧ w'.ownsRow w.heap.size 3 1 v h.length (h.map (Value.int .i64))
/-- The slice of the terms' polynomial does not lie in block G. -/
def Off (G : Nat) (ao : Option Addr) : Prop := ∀ a, ao = some a → a.block ≠ G
theorem reads_off {w : World} {ao : Option Addr} {G j : Nat} {xs : List Value} {v : Value} (h : Reads w ao xs) (ho : Off G ao) : Reads (w.setCell ⟨G, j, none⟩ v) ao xs := by
  intro i u hu
  obtain ⟨b, o, rfl, hc⟩ := h i u hu
  have hne : b ≠ G := ho ⟨b, o, none⟩ rfl
  exact ⟨b, o, rfl, (World.cell?_of_block (heap_set_far v (fun e => hne e.symm))).trans hc⟩
set_option maxRecDepth 100000 in
set_option maxHeartbeats 4000000 in
theorem points_Through (p : Int) (l : Pts) (n : Nat) (ao : Option Addr) (cap : Nat) (w : World) (hp : (Lit.int .i64 p).wf = true) (hl : l.length = n) (hc : n ≤ cap) (hR : Hid (Reads w ao (cells2 (l.map pV)))) (hok : ptsE p l = 0) :
    Calls Try.prog 19 #[.int .i64 p, .slice ao n cap] w (ThrPost p l w) := by
  have OP := Lib.hid (ptsOk_of hok)
  have p1 := OP.out.p1
  have p2 := OP.out.p2
  have l1 := OP.out.len
  rw [hl] at l1
  have C1 := Lib.hid (points_Check p l n ao cap w hp hl (by omega) hc hR)
  rw [hok] at C1
  have HL := Lib.hid hl
  have hp0 : ¬ p = 0 := by omega
  clear hp hl hok
  go_enter Try.func19, Try.ntmps19
  go_wp2_with (first | (go_at_call 49; refine C1.out.mono ?_; rintro e w1 ⟨rfl, hb1⟩) | (at_make; refine make_own rfl _ _ 24 rfl w.heap.size 3 _ 8 Try.underlying24 intRow rfl _ _ _ _ n (by rfl) (by rfl) rfl rfl (by omega) (by unfold maxLen; omega) hb1.size ?_; intro w2 hown hg2))
  obtain ⟨G, hgs⟩ : ∃ g, w1.heap.size = g := ⟨_, rfl⟩
  rw [hgs] at hown ⊢
  have hGw : w.heap.size ≤ G := by have := hb1.size; omega
  have HO0 : Hid (Own w2 w.heap.size 3 G n n (iV fun _ => 0)) := hown
  have HB0 : Hid (Below w.heap.size w w2) := hb1.trans (below_of_grown hg2 hb1.size (by intro k hk; cases hk))
  have HT0 : Hid (thrV p l (vI p l) 0 fun _ => 0) := ⟨fun k => ⟨Int.le_refl _, by show (0 : Int) < p; omega⟩, fun z => by rw [evn_zero]; rfl⟩
  clear hown hg2 hb1 hgs
  go_loopw [29] (fun vx wr => ∃ (i : Nat) (S : Nat → Int), vx = .int .i64 i ∧ i ≤ n ∧ Hid (thrV p l (vI p l) i S) ∧ Hid (Own wr w.heap.size 3 G n n (iV S)) ∧ Hid (Below w.heap.size w wr)) (fun vx _ => n - (intOf vx).toNat)
  case atStart => exact ⟨0, _, rfl, by omega, HT0, HO0, HB0⟩
  case round =>
    obtain ⟨i, S, rfl, hin, hT, hO, hb⟩ := hrel
    by_cases hi1 : i < n
    · have hil : i < l.length := by rw [HL.out]; exact hi1
      obtain ⟨b, o, rfl, c1, c2⟩ := pair_cells (hR.out.below hb.out) (pts_get hil)
      have hxb := OP.out.xb hil
      obtain ⟨x, hx⟩ : ∃ x, xs l i = x := ⟨_, rfl⟩
      obtain ⟨y, hy⟩ : ∃ y, ys l i = y := ⟨_, rfl⟩
      dsimp only at c1 c2
      rw [hx] at c1
      rw [hy] at c2
      rw [hx, hy] at hxb
      have HX := Lib.hid hx
      have HY := Lib.hid hy
      have HIL := Lib.hid hil
      have e1p : Hid ((1 : Int) = pz (xs l) i (xs l i) 0 % p) := by show (1 : Int) = 1 % p; rw [Int.emod_eq_of_lt (by omega) (by omega)]
      clear hx hy hil
      go_wp2_with fail
      obtain ⟨B, hB⟩ : ∃ B, wr.heap.size = B := ⟨_, rfl⟩
      have hGB : G < B := by have := hO.out.lt.2; omega
      obtain ⟨wx, hwx⟩ : ∃ wx, (wr.alloc (.cells #[.int .i64 x, .int .i64 y] 71)).alloc (.cells #[.int .i64 y] 3) = wx := ⟨_, rfl⟩
      have hbx1 : Hid (wx.heap[B]? = some (.cells #[.int .i64 x, .int .i64 y] 71 (0, 0))) := by show _ = _; rw [← hwx, ← hB]; exact heap_alloc_old _ _ (heap_alloc_new wr _)
      have hrd1 : Hid (Reads wx (some ⟨B + 1, 0, none⟩) ([y].map (Value.int .i64))) := by
        show Reads _ _ _
        rw [← hwx, ← hB]
        have := reads_new (wr.alloc (.cells #[.int .i64 x, .int .i64 y] 71)) #[.int .i64 y] 3
        rwa [World.size_alloc] at this
      have hwb : Below wr.heap.size wr wx := by rw [← hwx]; exact ((Below.refl _ wr).alloc (Nat.le_refl _) _).alloc (by simp) _
      have HO1 := Lib.hid (hO.out.below hwb)
      have HB1 := Lib.hid (hb.out.trans (hwb.mono hb.out.size))
      have hF0 : Hid (InF p [y] ∧ ∀ z, evp z [y] % p = ys l i * pz (xs l) i z 0 % p) := ⟨by intro u hu; simp at hu; subst hu; exact ⟨hxb.2.2.1, hxb.2.2.2⟩, fun z => by
        show (0 + co [y] 0 * z ^ 0) % p = ys l i * 1 % p
        rw [co_cons_zero, Int.pow_zero, HY.out, Int.zero_add]⟩
      have hoff : Off G (some ⟨B + 1, 0, none⟩) := fun a ha => by injection ha with ha; subst ha; show B + 1 ≠ G; omega
      have HOF := Lib.hid hoff
      rw [hB, hwx]
      clear hB hwx hwb hO hb hoff
      go_loopw [10, 11, 39] (fun v10 v11 v39 wi => ∃ (k mF cF : Nat) (F : List Int) (aF : Option Addr) (d : Int), v39 = .int .i64 k ∧ k ≤ n ∧ v10 = .slice aF mF cF ∧ v11 = .int .i64 d ∧ mF ≤ 13 ∧ Hid (mF = F.length ∧ mF ≤ if k ≤ i then k + 1 else k) ∧ Hid (InF p F ∧ ∀ z, evp z F % p = ys l i * pz (xs l) i z k % p) ∧ Hid (Reads wi aF (F.map (Value.int .i64))) ∧ Hid (Off G aF) ∧ 0 ≤ d ∧ d < p ∧ Hid (d = pz (xs l) i (xs l i) k % p) ∧ Hid (Own wi w.heap.size 3 G n n (iV S)) ∧ Hid (wi.heap[B]? = some (.cells #[.int .i64 x, .int .i64 y] 71 (0, 0))) ∧ Hid (Below w.heap.size w wi)) (fun _ _ v39 _ => n - (intOf v39).toNat)
      case atStart => exact ⟨0, 1, 1, [y], some ⟨B + 1, 0, none⟩, 1, rfl, by omega, rfl, rfl, by omega, ⟨rfl, by rw [if_pos (by omega)]; exact Nat.le_refl _⟩, hF0, hrd1, HOF, by omega, by omega, e1p, HO1, hbx1, HB1⟩
      case round =>
        obtain ⟨k, mF, cF, F, aF, d, rfl, hkn, rfl, rfl, hm13, hmF, hF, hrd, hof, hd0, hd1, hde, hO, hbx, hb⟩ := hrel
        have k1 : wr.cell? ⟨B, 0, none⟩ = some (.int .i64 x) := heap_cell hbx.out 0
        have k2 : wr.cell? ⟨B, 1, none⟩ = some (.int .i64 y) := heap_cell hbx.out 1
        by_cases hk1 : k < n
        · obtain ⟨b3, o3, ha3, c3, c4⟩ := pair_cells (hR.out.below hb.out) (pts_get (l := l) (k := k) (by rw [HL.out]; exact hk1))
          injection ha3 with ha3
          injection ha3 with e1 e2
          subst e1 e2
          have hxk := OP.out.xb (k := k) (by rw [HL.out]; exact hk1)
          obtain ⟨x2, hx2⟩ : ∃ x, xs l k = x := ⟨_, rfl⟩
          obtain ⟨y2, hy2⟩ : ∃ y, ys l k = y := ⟨_, rfl⟩
          dsimp only at c3 c4
          rw [hx2] at c3 hxk
          rw [hy2] at c4 hxk
          have HX2 := Lib.hid hx2
          clear hx2 hy2
          by_cases hki : k = i
          · have t1 : ((k : Int) != (i : Int)) = false := by simp; omega
            have hF2 : Hid (InF p F ∧ ∀ z, evp z F % p = ys l i * pz (xs l) i z (k + 1) % p) := ⟨hF.out.1, fun z => by rw [pz_succ, if_pos hki]; exact hF.out.2 z⟩
            have hde2 : Hid (d = pz (xs l) i (xs l i) (k + 1) % p) := by show _ = _; rw [pz_succ, if_pos hki]; exact hde.out
            have hmF2 : Hid (mF = F.length ∧ mF ≤ if k + 1 ≤ i then k + 1 + 1 else k + 1) := ⟨hmF.out.1, by
              have h := hmF.out.2
              rw [if_pos (by omega)] at h
              rw [if_neg (by omega)]; exact h⟩
            have hbb : Below wr.heap.size wr (wr.alloc (.cells #[.int .i64 x2, .int .i64 y2] 71)) := (Below.refl _ wr).alloc (Nat.le_refl _) _
            have hrd2 := Lib.hid (hrd.out.below hbb)
            have hO2 := Lib.hid (hO.out.below hbb)
            have hbx2 : Hid ((wr.alloc (.cells #[.int .i64 x2, .int .i64 y2] 71)).heap[B]? = some (.cells #[.int .i64 x, .int .i64 y] 71 (0, 0))) := heap_alloc_old _ _ hbx.out
            have hb2 := Lib.hid (hb.out.trans (hbb.mono hb.out.size))
            clear hki hbb hrd hO hbx hb hF hde hmF
            go_wp2_with fail
            go_roundw
            case rel => exact ⟨k + 1, mF, cF, F, aF, d, by go_num, by omega, rfl, rfl, hm13, hmF2, hF2, hrd2, hof, hd0, hd1, hde2, hO2, hbx2, hb2⟩
            case measure => simp [intOf]; omega
          · have t1 : ((k : Int) != (i : Int)) = true := by simp; omega
            obtain ⟨a, hae⟩ : ∃ a, (p - x2) % p = a := ⟨_, rfl⟩
            have hab := pol_bd (by omega) p2 _ hae.symm
            have hap : a < p := by rw [← hae]; exact Int.emod_lt_of_pos _ (by omega)
            have w1 : IntKind.i64.wrap (p - x2) = p - x2 := IntWalk.i64_in _ (by omega)
            have hat : Int.tmod (p - x2) p = a := by rw [Int.tmod_eq_emod_of_nonneg (by omega)]; exact hae
            have wa : IntKind.i64.wrap a = a := IntWalk.i64_in _ (by omega)
            have w2 : IntKind.i64.wrap (x - x2) = x - x2 := IntWalk.i64_in _ (by omega)
            have w3 : IntKind.i64.wrap (x - x2 + p) = x - x2 + p := IntWalk.i64_in _ (by omega)
            have hq := mul_bd hd0 (show d ≤ 2000 by omega) (show 0 ≤ x - x2 + p by omega) (show x - x2 + p ≤ 2000 by omega)
            obtain ⟨q, hqe⟩ : ∃ q, d * (x - x2 + p) = q := ⟨_, rfl⟩
            rw [hqe] at hq
            have wq : IntKind.i64.wrap q = q := IntWalk.i64_in _ (by omega)
            obtain ⟨d2, hd2⟩ : ∃ d2, q % p = d2 := ⟨_, rfl⟩
            have hdt : Int.tmod q p = d2 := by rw [Int.tmod_eq_emod_of_nonneg (by omega)]; exact hd2
            have hd2b : 0 ≤ d2 ∧ d2 < p := by rw [← hd2]; exact ⟨Int.emod_nonneg _ hp0, Int.emod_lt_of_pos _ (by omega)⟩
            have wd : IntKind.i64.wrap d2 = d2 := IntWalk.i64_in _ (by omega)
            have hde2 : Hid (d2 = pz (xs l) i (xs l i) (k + 1) % p) := by
              show _ = _
              rw [← hd2, ← hqe, ← HX.out, ← HX2.out]; exact d_step hki hde.out
            have hAe : Hid (a % p = (p - xs l k) % p) := by show _ = _; rw [HX2.out, ← hae, Int.emod_emod_of_dvd _ (Int.dvd_refl p)]
            have hIa : Hid (InF p [a, 1]) := by
              intro u hu
              simp at hu
              rcases hu with rfl | rfl
              · exact ⟨hab.1, hap⟩
              · omega
            have hKI := Lib.hid hki
            obtain ⟨wk, hwk⟩ : ∃ wk, (wr.alloc (.cells #[.int .i64 x2, .int .i64 y2] 71)).alloc (.cells #[.int .i64 a, .int .i64 1] 3) = wk := ⟨_, rfl⟩
            have hbb : Below wr.heap.size wr wk := by rw [← hwk]; exact ((Below.refl _ wr).alloc (Nat.le_refl _) _).alloc (by simp) _
            have hrd2 := Lib.hid (hrd.out.below hbb)
            have hra : Hid (Reads ((wr.alloc (.cells #[.int .i64 x2, .int .i64 y2] 71)).alloc (.cells #[.int .i64 a, .int .i64 1] 3)) (some ⟨wr.heap.size + 1, 0, none⟩) ([a, 1].map (Value.int .i64))) := by
              show Reads _ _ _
              have := reads_new (wr.alloc (.cells #[.int .i64 x2, .int .i64 y2] 71)) #[.int .i64 a, .int .i64 1] 3
              rwa [World.size_alloc] at this
            have hO2 := hO.out.below hbb
            have hbx2 : Hid (wk.heap[B]? = some (.cells #[.int .i64 x, .int .i64 y] 71 (0, 0))) := by show _ = _; rw [← hwk]; exact heap_alloc_old _ _ (heap_alloc_old _ _ hbx.out)
            have hb2 := Lib.hid (hb.out.trans (hbb.mono hb.out.size))
            have hGk := hO2.lt.2
            have hBk := (Array.getElem?_eq_some_iff.1 hbx2.out).1
            have HO2 := Lib.hid hO2
            have CP := Lib.hid (poly_Product p F [a, 1] mF 2 aF (some ⟨wr.heap.size + 1, 0, none⟩) cF 2 wk p1 p2 hmF.out.1.symm rfl (by omega) (by omega) hF.out.1 hIa hrd2 (by rw [← hwk]; exact hra))
            rw [← hwk] at CP
            have HWK := Lib.hid hwk
            have hq3 : Hid (wk.heap[wr.heap.size]? = some (.cells #[.int .i64 x2, .int .i64 y2] 71 (0, 0))) := by show _ = _; rw [← hwk]; exact heap_alloc_old _ _ (heap_alloc_new wr _)
            have hq2 : wr.heap.size < wk.heap.size := (Array.getElem?_eq_some_iff.1 hq3.out).1
            have hm2 := Lib.hid hmF.out.2
            have hm3 := Lib.hid hmF.out.1
            have HF := hF
            clear hki hbb hrd hO hbx hb hF hde hmF hae hd2 hO2 hwk
            go_wp2_with (go_at_call 79; (with_reducible refine CP.out.mono ?_); rw [HWK.out]; rintro e w5 ⟨h5, hpol5, v5, rfl, hv1, hv2⟩; have q1 : w5.cell? ⟨B, 0, none⟩ = some (.int .i64 x) := heap_cell ((hv2.block _ hBk).trans hbx2.out) 0; have q2 : w5.cell? ⟨wr.heap.size, 0, none⟩ = some (.int .i64 x2) := heap_cell ((hv2.block _ hq2).trans hq3.out) 0)
            obtain ⟨a5, c5, rfl, r5, n5, k51, k52⟩ := own_data hv1
            have hof5 : Off G a5 := fun ad had => by
              subst had
              have := (hv1.lt ad.block rfl).1
              have h2 : G < wk.heap.size := hGk
              omega
            have hF5 : Hid (InF p h5 ∧ ∀ z, evp z h5 % p = ys l i * pz (xs l) i z (k + 1) % p) := ⟨hpol5.inF (by omega), fac_step hKI.out hAe.out HF.out.2 hpol5⟩
            have hl5 := fac_len hpol5
            have hm5 : Hid (h5.length = h5.length ∧ h5.length ≤ if k + 1 ≤ i then k + 1 + 1 else k + 1) := ⟨rfl, by
              have h := hm2.out
              have h3 := hm3.out
              have h4 := hKI.out
              by_cases hki2 : k + 1 ≤ i
              · rw [if_pos hki2]; rw [if_pos (by omega)] at h; omega
              · rw [if_neg hki2]; rw [if_neg (by omega)] at h; omega⟩
            have hm513 : h5.length ≤ 13 := by
              have h := hm5.out.2
              split at h <;> omega
            have HR5 := Lib.hid r5
            have HO5 : Hid (Own w5 w.heap.size 3 G n n (iV S)) := HO2.out.below hv2
            have HB5 : Hid (w5.heap[B]? = some (.cells #[.int .i64 x, .int .i64 y] 71 (0, 0))) := (hv2.block _ hBk).trans hbx2.out
            have HBl5 := Lib.hid (hb2.out.trans (hv2.mono hb2.out.size))
            have HOF5 := Lib.hid hof5
            clear hv1 hv2 hpol5 r5 hof5 hl5
            go_roundw
            case rel => exact ⟨k + 1, h5.length, c5, h5, a5, d2, by go_num, by omega, rfl, rfl, hm513, hm5, hF5, HR5, HOF5, hd2b.1, hd2b.2, hde2, HO5, HB5, HBl5⟩
            case measure => simp [intOf]; omega
        · have hkl : k = l.length := by rw [HL.out]; omega
          obtain ⟨v0, v1, v2, v3⟩ := ivI_ok OP.out HIL.out
          obtain ⟨v, hv⟩ : ∃ v, ivI p l i = v := ⟨_, rfl⟩
          have hdd : d % p = d := Int.emod_eq_of_lt hd0 hd1
          have hdp : d = pz (xs l) i (xs l i) l.length % p := by rw [← hkl]; exact hde.out
          have CI := Lib.hid (fun w => rest_Inverse d p w (by omega) (by omega) (by omega) (by omega) (by rw [hdd, hdp]; exact v3))
          have hbe : bezX (d % p) p = v := by rw [← hv, hdd, hdp]; rfl
          rw [hbe] at CI
          rw [hv] at v0 v1
          have HV := Lib.hid hv
          have hFn : F.length ≤ n := by
            have h := hmF.out
            rw [← h.1]
            have h2 := h.2
            rw [if_neg (by have := HIL.out; omega)] at h2
            omega
          have HFn : Hid (F.length ≤ l.length) := by show _ ≤ _; rw [HL.out]; exact hFn
          have hFz : Hid (∀ z, evp z F % p = ys l i * pz (xs l) i z l.length % p) := by rw [← hkl]; exact hF.out.2
          have hmn : mF ≤ n := by rw [hmF.out.1]; exact hFn
          have HmF : Hid (mF = F.length) := hmF.out.1
          have hIF := Lib.hid hF.out.1
          have hS0 : Hid (Own wr w.heap.size 3 G n n (iV (addI p S F v 0))) := hO.out.congr fun a _ => by unfold iV addI; rw [if_neg (by omega)]
          have hkn2 : k = n := by omega
          clear v2 v3 hv hdd hdp hbe hkl hF hmF hde hFn
          subst hkn2
          go_wp2_with (go_at_call 80; refine (CI.out _).mono ?_; rintro e w' ⟨rfl, n3, rfl⟩)
          have hO3 : Hid (Own (wr.drewN n3) w.heap.size 3 G k k (iV (addI p S F v 0))) := hS0.out.drewN n3
          have hrd3 : Hid (Reads (wr.drewN n3) aF (F.map (Value.int .i64))) := hrd.out.drew n3
          have hb3 : Hid (Below w.heap.size w (wr.drewN n3)) := below_drewN hb.out n3
          clear hO hrd hb hbx k1 k2 hS0
          go_loopw [77] (fun vj wi => ∃ j : Nat, vj = .int .i64 j ∧ j ≤ mF ∧ Hid (Own wi w.heap.size 3 G k k (iV (addI p S F v j))) ∧ Hid (Reads wi aF (F.map (Value.int .i64))) ∧ Hid (Below w.heap.size w wi)) (fun vj _ => mF - (intOf vj).toNat)
          case atStart => exact ⟨0, rfl, by omega, hO3, hrd3, hb3⟩
          case round =>
            obtain ⟨j, rfl, hjm, hO, hrd, hb⟩ := hrel
            by_cases hj1 : j < mF
            · obtain ⟨c, hc⟩ : ∃ c, co F j = c := ⟨_, rfl⟩
              obtain ⟨b7, o7, ha7, hcc⟩ := hrd.out j (.int .i64 c) (by rw [List.getElem?_map, co_some (by rw [← HmF.out]; exact hj1), hc]; rfl)
              have hcb := hIF.out.co (by omega) j
              rw [hc] at hcb
              have hjn : j < k := by omega
              obtain ⟨s, hs⟩ : ∃ s, S j = s := ⟨_, rfl⟩
              have hsb := hT.out.1 j
              rw [hs] at hsb
              have c7 := hO.out.cell hjn
              have f7 := hO.out.frozen j
              have hat : addI p S F v j j = s := by unfold addI; rw [if_neg (by omega), hs]
              unfold iV at c7
              rw [hat] at c7
              have hm1 := mul_bd hcb.1 (show c ≤ 996 by omega) v0 (show v ≤ 996 by omega)
              obtain ⟨m, hm⟩ : ∃ m, c * v = m := ⟨_, rfl⟩
              rw [hm] at hm1
              have wm : IntKind.i64.wrap m = m := IntWalk.i64_in _ (by omega)
              have ws : IntKind.i64.wrap (s + m) = s + m := IntWalk.i64_in _ (by omega)
              obtain ⟨r, hr⟩ : ∃ r, (s + m) % p = r := ⟨_, rfl⟩
              have hrt : Int.tmod (s + m) p = r := by rw [Int.tmod_eq_emod_of_nonneg (by omega)]; exact hr
              have hrb := pol_bd (by omega) p2 _ hr.symm
              have wr1 : IntKind.i64.wrap r = r := IntWalk.i64_in _ (by omega)
              have st := hO.out.store j (.int .i64 r)
              have hO4 := Lib.hid (st.1.congr (f' := iV (addI p S F v (j + 1))) fun a _ => by
                unfold iV
                rw [addI_step]
                by_cases ha : a = j
                · rw [if_pos ha, if_pos ha, hs, hc, hm, hr]
                · rw [if_neg ha, if_neg ha])
              have hb4 := Lib.hid (hO.out.belowStore hb.out (Nat.le_refl _) j (.int .i64 r))
              have hrd4 : Hid (Reads (wr.setCell ⟨G, j, none⟩ (.int .i64 r)) aF (F.map (Value.int .i64))) := reads_off hrd.out hof.out
              clear st hr hs hc hat
              subst ha7
              go_wp2_with fail
              go_roundw
              case rel => exact ⟨j + 1, by go_num, by omega, hO4, hrd4, hb4⟩
              case measure => simp [intOf]; omega
            · have hjF : j = F.length := by rw [← HmF.out]; omega
              have HT2 : Hid (thrV p l (vI p l) (i + 1) (addI p S F v F.length)) := by
                have h := thr_step (by omega) hT.out HFn.out hFz.out
                rw [HV.out] at h
                exact h
              have hO4 : Hid (Own wr w.heap.size 3 G k k (iV (addI p S F v F.length))) := by rw [← hjF]; exact hO
              clear hjF
              go_wp2_with fail
              go_roundw
              case rel => exact ⟨i + 1, _, by go_num, by omega, HT2, hO4, hb⟩
              case measure => simp [intOf]; omega
    · have hin2 : i = l.length := by rw [HL.out]; omega
      have hThr : Hid (ThrIs p l (trim (mkL n S))) := by
        have h := hT.out
        rw [hin2] at h
        have h2 := thr_end (by omega) h
        rw [HL.out] at h2
        exact h2
      have hR2 : Hid (Reads wr (some ⟨G, 0, none⟩) ((mkL n S).map (Value.int .i64))) := by
        show Reads _ _ _
        rw [map_mkL]; exact hO.out.reads
      clear hin2
      go_wp2_with (go_at_call 76; refine (poly_Trim (mkL n S) n (some ⟨G, 0, none⟩) n w.heap.size _ (by omega) (mkL_length _ _) (Nat.le_refl _) (by omega) (fun h => by cases h) hR2 hb.out.size).mono ?_; rintro e w' ⟨v, rfl, hv1, hv2⟩)
      go_ret2
      exact ⟨_, v, hThr.out, hb.out.trans (Below.mono hv2 (Nat.le_refl _)), rfl, hv1⟩
end Go.Proofs.Ytiljppeamdoocaa
namespace Go.Proofs.Ytiljppeamdoocaa
open Go.RowKit

theorem polE_ok {p : Int} {f : List Int} (h : PolOk p f) : polE p f = 0 := by
  unfold polE
  rw [fldE_zero h.p1 h.p2 h.pr, if_neg (by omega), if_neg (by have := h.len; omega)]
  have ha : f.any (outF p) = false := by
    rw [List.any_eq_false]
    intro x hx
    have := h.inF x hx
    unfold outF
    simp
    omega
  rw [ha, if_neg (by simp), if_neg]
  rintro ⟨h0, h1⟩
  rcases h.trm with h2 | h2
  · omega
  · exact h2 h1
theorem ThrIs.pol {p : Int} {l : Pts} {h : List Int} (OP : PtsOk p l) (t : ThrIs p l h) : PolOk p h := ⟨OP.p1, OP.p2, OP.pr, by have := t.2.2.1; have := OP.len; omega, t.2.1, t.1⟩
theorem ints_B0 {w : World} {ao : Option Addr} {cap : Nat} {zs : List Int} (h : Reads w ao (zs.map (Value.int .i64))) : IntsB w.heap.size w ao cap zs := by
  rcases Nat.eq_zero_or_pos zs.length with h0 | hne
  · exact .inl (List.eq_nil_of_length_eq_zero h0)
  · obtain ⟨b, o, rfl, hc⟩ := h 0 _ (by rw [List.getElem?_map, List.getElem?_eq_getElem hne]; rfl)
    refine .inr ⟨b, o, rfl, World.block_lt_of_cell? w _ hc, fun j hj => ?_⟩
    obtain ⟨b2, o2, ha, hc2⟩ := h j _ (by rw [List.getElem?_map, List.getElem?_eq_getElem hj]; rfl)
    injection ha with ha
    injection ha with e1 e2
    subst e1 e2
    rw [hc2, List.getElem?_eq_getElem hj]; rfl
noncomputable def ptsV (p : Int) (l : Pts) (z : Int) : Int := lsum (xs l) (vI p l) l.length z l.length % p
set_option maxRecDepth 20000 in
set_option maxHeartbeats 1000000 in
theorem points_At_bad (p : Int) (l : Pts) (x : Int) (n : Nat) (ao : Option Addr) (cap : Nat) (w : World) (hp : (Lit.int .i64 p).wf = true) (hl : l.length = n) (h63 : n ≤ 9223372036854775807) (hc : n ≤ cap) (hR : Hid (Reads w ao (cells2 (l.map pV)))) (hb : ptsE p l ≠ 0) :
    Calls Try.prog 22 #[.int .i64 p, .slice ao n cap, .int .i64 x] w fun e w' => e = .returned (.tuple #[.int .i64 0, .int .i64 (ptsE p l)]) ∧ Below w.heap.size w w' := by
  have C1 := Lib.hid (points_Through_bad p l n ao cap w hp hl h63 hc hR hb)
  obtain ⟨c, hcc⟩ : ∃ c, ptsE p l = c := ⟨_, rfl⟩
  rw [hcc] at C1 hb ⊢
  have hc0 : (c != 0) = true := by simp [hb]
  clear hp hl hb hcc
  go_enter Try.func22, Try.ntmps22
  go_wp2_with (go_at_call 19; refine C1.out.mono ?_; rintro e w' ⟨rfl, hb1⟩)
  go_ret2
  exact ⟨rfl, hb1⟩
set_option maxRecDepth 20000 in
set_option maxHeartbeats 1000000 in
theorem points_At (p : Int) (l : Pts) (x : Int) (n : Nat) (ao : Option Addr) (cap : Nat) (w : World) (hp : (Lit.int .i64 p).wf = true) (hx : (Lit.int .i64 x).wf = true) (hl : l.length = n) (hc : n ≤ cap) (hR : Hid (Reads w ao (cells2 (l.map pV)))) (hok : ptsE p l = 0) :
    Calls Try.prog 22 #[.int .i64 p, .slice ao n cap, .int .i64 x] w fun e w' => e = .returned (.tuple #[.int .i64 (ptsV p l (x % p)), .int .i64 0]) ∧ Below w.heap.size w w' := by
  have C1 := Lib.hid (points_Through p l n ao cap w hp hl hc hR hok)
  have OP := Lib.hid (ptsOk_of hok)
  have HP := Lib.hid hp
  have HX := Lib.hid hx
  clear hp hx hl hok
  go_enter Try.func22, Try.ntmps22
  go_wp2_with (first | (go_at_call 19; refine C1.out.mono ?_; rintro e w1 ⟨h, v, hthr, hb1, rfl, hown⟩; obtain ⟨a1, k1, rfl, r1, n1, kk1, kk2⟩ := own_data hown) | (go_at_call 21; refine (poly_At p h x a1 h.length k1 _ HP.out HX.out rfl (ints_B0 r1) r1 (polE_ok (hthr.pol OP.out))).mono ?_; rintro e w2 ⟨rfl, hb2⟩))
  go_ret2
  refine ⟨?_, hb1.trans (hb2.mono hb1.size)⟩
  unfold ptsV
  rw [← hthr.2.2.2]; rfl
theorem pw_succ (X : Nat → Int) (i e k : Nat) : pw X i e (k + 1) = if k = i then pw X i e k else pw X i e k * (X i - X k) ^ e := rfl
/-- A term's number when the first k places are taken in. -/
def termA (p : Int) (l : Pts) (z : Int) (i k : Nat) : Int := ys l i * pz (xs l) i z k * pw (xs l) i (p.toNat - 2) k % p
theorem mod3 (a b c p : Int) : a % p * (b % p) % p * (c % p) % p = a * b * c % p := by rw [← Int.mul_emod a b p, ← Int.mul_emod]
theorem term_step {p : Int} {l : Pts} {z : Int} {i k : Nat} (hk : k ≠ i) {y u : Int} (hy : y = termA p l z i k) (hu : u = (xs l i - xs l k) ^ (p.toNat - 2) % p) : y * ((z - xs l k) % p) % p * u % p = termA p l z i (k + 1) := by
  unfold termA at hy ⊢
  rw [pz_succ, pw_succ, if_neg hk, if_neg hk, hy, hu, mod3]
  congr 1
  grind
theorem term_skip {p : Int} {l : Pts} {z : Int} {i k : Nat} (hk : k = i) : termA p l z i (k + 1) = termA p l z i k := by
  unfold termA
  rw [pz_succ, pw_succ, if_pos hk, if_pos hk]
noncomputable def wI (p : Int) (l : Pts) (i : Nat) : Int := ys l i * pw (xs l) i (p.toNat - 2) l.length
theorem sum_step {p : Int} {l : Pts} {z o y : Int} {i : Nat} (ho : o = lsum (xs l) (wI p l) l.length z i % p) (hy : y = termA p l z i l.length) : (o + y) % p = lsum (xs l) (wI p l) l.length z (i + 1) % p := by
  show _ = (lsum (xs l) (wI p l) l.length z i + wI p l i * pz (xs l) i z l.length) % p
  unfold termA at hy
  unfold wI at ho ⊢
  rw [ho, hy, ← Int.add_emod]
  congr 2
  grind
theorem sum_same {p : Int} {l : Pts} (OP : PtsOk p l) (z : Int) : lsum (xs l) (wI p l) l.length z l.length % p = ptsV p l z := by
  unfold ptsV
  refine lsum_congr _ _ _ _ _ _ _ fun i hi => ?_
  have h1 := OP.p1
  obtain ⟨_, _, h3, _⟩ := ivI_ok OP hi
  have h4 := term_same OP.pr (by omega) (xs l) i l.length (fun k hk hne => OP.xne hi hk hne) h3
  unfold wI vI
  rw [Int.mul_emod, h4, ← Int.mul_emod]
set_option maxRecDepth 100000 in
set_option maxHeartbeats 4000000 in
theorem ref_AtPoint (p : Int) (l : Pts) (x : Int) (n : Nat) (ao : Option Addr) (cap : Nat) (w : World) (OP : PtsOk p l) (hx : (Lit.int .i64 x).wf = true) (hl : l.length = n) (hR : Hid (Reads w ao (cells2 (l.map pV)))) :
    Calls Try.prog 50 #[.int .i64 p, .slice ao n cap, .int .i64 x] w fun e w' => e = .returned (.int .i64 (ptsV p l (x % p))) ∧ Below w.heap.size w w' := by
  have hxb := bd_of_wf hx
  have p1 := OP.p1
  have p2 := OP.p2
  have l1 := OP.len
  rw [hl] at l1
  have HOP := Lib.hid OP
  have HL := Lib.hid hl
  have hp0 : ¬ p = 0 := by omega
  have z0 : 0 ≤ x % p := Int.emod_nonneg _ hp0
  have z1 : x % p < p := Int.emod_lt_of_pos _ (by omega)
  have CX := Lib.hid (fun w => ref_mod x p w hxb.1 hxb.2 (by omega) (by omega))
  obtain ⟨z, hz⟩ : ∃ z, x % p = z := ⟨_, rfl⟩
  rw [hz] at CX z0 z1 ⊢
  have w2 : IntKind.i64.wrap (p - 2) = p - 2 := IntWalk.i64_in _ (by omega)
  clear OP hx hl hz hxb
  go_enter Try.func50, Try.ntmps50
  go_wp2_with fail
  go_loopw [7, 15] (fun vo vi wr => ∃ (i : Nat) (o : Int), vi = .int .i64 i ∧ i ≤ n ∧ vo = .int .i64 o ∧ 0 ≤ o ∧ o ≤ 996 ∧ Hid (o = lsum (xs l) (wI p l) l.length z i % p) ∧ Hid (Below w.heap.size w wr)) (fun _ vi _ => n - (intOf vi).toNat)
  case atStart => exact ⟨0, 0, rfl, by omega, rfl, by omega, by omega, (Int.zero_emod p).symm, Below.refl _ _⟩
  case round =>
    obtain ⟨i, o, rfl, hin, rfl, o0, o1, ho, hb⟩ := hrel
    by_cases hi1 : i < n
    · have hil : i < l.length := by rw [HL.out]; exact hi1
      obtain ⟨b, ob, rfl, c1, c2⟩ := pair_cells (hR.out.below hb.out) (pts_get hil)
      have hxy := HOP.out.xb hil
      obtain ⟨X, hX⟩ : ∃ x, xs l i = x := ⟨_, rfl⟩
      obtain ⟨Y, hY⟩ : ∃ y, ys l i = y := ⟨_, rfl⟩
      dsimp only at c1 c2
      rw [hX] at c1
      rw [hY] at c2
      rw [hX, hY] at hxy
      have HX := Lib.hid hX
      have ht0 : Hid (Y = termA p l z i 0) := by
        show Y = ys l i * 1 * 1 % p
        rw [hY, Int.mul_one, Int.mul_one]
        exact (Int.emod_eq_of_lt hxy.2.2.1 hxy.2.2.2).symm
      have hbb := hb.out.trans ((Below.refl _ wr).alloc hb.out.size (.cells #[.int .i64 X, .int .i64 Y] 71))
      have HB1 := Lib.hid hbb
      have hbx1 : Hid ((wr.alloc (.cells #[.int .i64 X, .int .i64 Y] 71)).heap[wr.heap.size]? = some (.cells #[.int .i64 X, .int .i64 Y] 71 (0, 0))) := heap_alloc_new wr _
      clear hX hY hil hbb
      go_wp2_with fail
      obtain ⟨B, hB⟩ : ∃ B, wr.heap.size = B := ⟨_, rfl⟩
      rw [hB] at hbx1 ⊢
      clear hB
      go_loopw [10, 24] (fun vy vk wi => ∃ (k : Nat) (y : Int), vk = .int .i64 k ∧ k ≤ n ∧ vy = .int .i64 y ∧ 0 ≤ y ∧ y ≤ 996 ∧ Hid (y = termA p l z i k) ∧ Hid (wi.heap[B]? = some (.cells #[.int .i64 X, .int .i64 Y] 71 (0, 0))) ∧ Hid (Below w.heap.size w wi)) (fun _ vk _ => n - (intOf vk).toNat)
      case atStart => exact ⟨0, Y, rfl, by omega, rfl, hxy.2.2.1, by omega, ht0, hbx1, HB1⟩
      case round =>
        obtain ⟨k, y, rfl, hkn, rfl, y0, y1, hy, hbx, hb⟩ := hrel
        by_cases hk1 : k < n
        · obtain ⟨b3, o3, ha3, c3, c4⟩ := pair_cells (hR.out.below hb.out) (pts_get (l := l) (k := k) (by rw [HL.out]; exact hk1))
          injection ha3 with ha3
          injection ha3 with e1 e2
          subst e1 e2
          have hxk := HOP.out.xb (k := k) (by rw [HL.out]; exact hk1)
          obtain ⟨x2, hx2⟩ : ∃ x, xs l k = x := ⟨_, rfl⟩
          obtain ⟨y2, hy2⟩ : ∃ y, ys l k = y := ⟨_, rfl⟩
          dsimp only at c3 c4
          rw [hx2] at c3 hxk
          rw [hy2] at c4 hxk
          have HX2 := Lib.hid hx2
          have hbb : Below wr.heap.size wr (wr.alloc (.cells #[.int .i64 x2, .int .i64 y2] 71)) := (Below.refl _ wr).alloc (Nat.le_refl _) _
          have hb2 := Lib.hid (hb.out.trans (hbb.mono hb.out.size))
          have hbx2 : (wr.alloc (.cells #[.int .i64 x2, .int .i64 y2] 71)).heap[B]? = some (.cells #[.int .i64 X, .int .i64 Y] 71 (0, 0)) := heap_alloc_old _ _ hbx.out
          have HBX2 := Lib.hid hbx2
          have k1 : (wr.alloc (.cells #[.int .i64 x2, .int .i64 y2] 71)).cell? ⟨B, 0, none⟩ = some (.int .i64 X) := heap_cell hbx2 0
          clear hx2 hy2 hbb hbx2 hb hbx
          by_cases hki : k = i
          · have t1 : ((i : Int) != (k : Int)) = false := by simp; omega
            have hy3 : Hid (y = termA p l z i (k + 1)) := by show _ = _; rw [term_skip hki]; exact hy.out
            clear hki hy
            go_wp2_with fail
            go_roundw
            case rel => exact ⟨k + 1, y, by go_num, by omega, rfl, y0, y1, hy3, HBX2, hb2⟩
            case measure => simp [intOf]; omega
          · have t1 : ((i : Int) != (k : Int)) = true := by simp; omega
            have w3 : IntKind.i64.wrap (z - x2) = z - x2 := IntWalk.i64_in _ (by omega)
            have w4 : IntKind.i64.wrap (X - x2) = X - x2 := IntWalk.i64_in _ (by omega)
            have C2 := Lib.hid (fun w => ref_mod (z - x2) p w (by omega) (by omega) (by omega) (by omega))
            have C3 := Lib.hid (fun w => ref_mod (X - x2) p w (by omega) (by omega) (by omega) (by omega))
            obtain ⟨u, hu⟩ : ∃ u, (z - x2) % p = u := ⟨_, rfl⟩
            obtain ⟨v, hv⟩ : ∃ v, (X - x2) % p = v := ⟨_, rfl⟩
            have hub := pol_bd (by omega) p2 _ hu.symm
            have hvb := pol_bd (by omega) p2 _ hv.symm
            rw [hu] at C2
            rw [hv] at C3
            have C4 : Hid (∀ W, Calls Try.prog 104 #[.int .i64 v, .int .i64 (p - 2), .int .i64 p] W fun e w' => e = .returned (.int .i64 (pwm v (p.toNat - 2) p)) ∧ ∃ n, w' = W.drewN n) := fun W => by
              have h := ref_PowOf 10 v (p.toNat - 2) p W (by omega) (by omega) (by omega) (by omega) (by omega) (by omega)
              rwa [show ((p.toNat - 2 : Nat) : Int) = p - 2 by omega] at h
            obtain ⟨t, ht⟩ : ∃ t, pwm v (p.toNat - 2) p = t := ⟨_, rfl⟩
            have htb := pol_bd (by omega) p2 (v ^ (p.toNat - 2)) (show t = _ from ht.symm)
            rw [ht] at C4
            have hm1 := mul_bd y0 y1 hub.1 hub.2
            obtain ⟨m, hm⟩ : ∃ m, y * u = m := ⟨_, rfl⟩
            rw [hm] at hm1
            have wm : IntKind.i64.wrap m = m := IntWalk.i64_in _ (by omega)
            obtain ⟨r, hr⟩ : ∃ r, m % p = r := ⟨_, rfl⟩
            have hrt : Int.tmod m p = r := by rw [Int.tmod_eq_emod_of_nonneg (by omega)]; exact hr
            have hrb := pol_bd (by omega) p2 _ hr.symm
            have wr1 : IntKind.i64.wrap r = r := IntWalk.i64_in _ (by omega)
            have hm2 := mul_bd hrb.1 hrb.2 htb.1 htb.2
            obtain ⟨m', hm'⟩ : ∃ m, r * t = m := ⟨_, rfl⟩
            rw [hm'] at hm2
            have wm' : IntKind.i64.wrap m' = m' := IntWalk.i64_in _ (by omega)
            obtain ⟨r', hr'⟩ : ∃ r, m' % p = r := ⟨_, rfl⟩
            have hrt' : Int.tmod m' p = r' := by rw [Int.tmod_eq_emod_of_nonneg (by omega)]; exact hr'
            have hrb' := pol_bd (by omega) p2 _ hr'.symm
            have wr1' : IntKind.i64.wrap r' = r' := IntWalk.i64_in _ (by omega)
            have hy3 : Hid (r' = termA p l z i (k + 1)) := by
              show _ = _
              have hte : t = (xs l i - xs l k) ^ (p.toNat - 2) % p := by rw [HX.out, HX2.out, ← ht, ← hv]; exact pwm_mod _ _ _
              rw [← term_step hki hy.out hte, HX2.out, hu, hm, hr, hm', hr']
            clear hki hy hu hv ht hr hr'
            go_wp2_with fail
            go_quiet ((first | (go_at_call 102; (first | (with_reducible exact quiet_on (fun W' => CX.out W')) | (with_reducible exact quiet_at (fun W' => CX.out W')) | (with_reducible exact quiet_on (fun W' => C2.out W')) | (with_reducible exact quiet_at (fun W' => C2.out W')) | (with_reducible exact quiet_on (fun W' => C3.out W')) | (with_reducible exact quiet_at (fun W' => C3.out W')))) | (go_at_call 104; (first | (with_reducible exact quiet_on (fun W' => C4.out W')) | (with_reducible exact quiet_at (fun W' => C4.out W'))))))
            go_wp2_with fail
            go_roundw
            case rel => exact ⟨k + 1, r', by go_num, by omega, rfl, hrb'.1, hrb'.2, hy3, HBX2.out, below_drewN hb2.out _⟩
            case measure => simp [intOf]; omega
        · have hkl : k = l.length := by rw [HL.out]; omega
          have ws : IntKind.i64.wrap (o + y) = o + y := IntWalk.i64_in _ (by omega)
          obtain ⟨r, hr⟩ : ∃ r, (o + y) % p = r := ⟨_, rfl⟩
          have hrt : Int.tmod (o + y) p = r := by rw [Int.tmod_eq_emod_of_nonneg (by omega)]; exact hr
          have hrb := pol_bd (by omega) p2 _ hr.symm
          have wr1 : IntKind.i64.wrap r = r := IntWalk.i64_in _ (by omega)
          have hs : Hid (r = lsum (xs l) (wI p l) l.length z (i + 1) % p) := by
            show _ = _
            rw [← hr]
            exact sum_step ho.out (by rw [← hkl]; exact hy.out)
          clear hkl hr
          go_wp2_with fail
          go_roundw
          case rel => exact ⟨i + 1, r, by go_num, by omega, rfl, hrb.1, hrb.2, hs, hb⟩
          case measure => simp [intOf]; omega
    · have hfin : Hid (o = ptsV p l z) := by
        show _ = _
        rw [ho.out, show i = l.length by rw [HL.out]; omega]
        exact sum_same HOP.out z
      go_wp2_with fail
      go_ret
      exact ⟨ret_int hfin.out, hb.out⟩
end Go.Proofs.Ytiljppeamdoocaa
