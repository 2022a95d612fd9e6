/- divide.Divisors. -/
import Derived.Test.YtmeffbooabionaaRows
import Derived.Test.YtmeffbooabionaaIrM33
import Derived.Test.YtmeffbooabionaaFactor
import Derived.Test.YtmeffbooabionaaDivide
import Derived.Test.YtmeffbooabionaaPhi
import Derived.Test.YtmeffbooabionaaSlicesC
import Derived.Test.YtmeffbooabionaaClipI
import Derived.Test.YtmeffbooabionaaCloneI
import Derived.Test.YtmeffbooabionaaSortI
set_option linter.unusedVariables false
set_option linter.unusedSimpArgs false
namespace Go.Proofs.Ytmeffbooabionaa
open Go.RowKit

theorem natInts_map (l : List Nat) : natInts l = (l.map fun x : Nat => (x : Int)).map (Value.int .i64) := by simp [natInts]
theorem natInts_cons (l : List Nat) (x : Nat) : natInts l ++ [Value.int .i64 x] = natInts (l ++ [x]) := by simp [natInts]
theorem own_lit2 (w : World) (base e : Nat) (a b : Value) (hb : base ≤ w.heap.size) :
    (w.alloc (.cells #[a, b] e)).ownsRow base e 2 (.slice (some ⟨w.heap.size, 0, none⟩) 1 1) 1 [a, b] :=
  ⟨by simp, .inr ⟨w.heap.size, 1, #[a, b], rfl, hb, heap_alloc_new w _, Nat.le_refl _, by unfold maxLen; omega, by simp, by simp⟩⟩
theorem lit2_cells {w : World} {base e X : Nat} {a b : Value} (h : w.ownsRow base e 2 (.slice (some ⟨X, 0, none⟩) 1 1) 1 [a, b]) : w.cell? ⟨X, 0, none⟩ = some a ∧ w.cell? ⟨X, 1, none⟩ = some b := by
  obtain ⟨ao, cp, hv, hR, _, _⟩ := own_reads h
  injection hv with e1 e2 e3
  subst e1
  exact ⟨reads_cell0 hR (i := 0) rfl, reads_cell0 hR (i := 1) rfl⟩
/-- The divisors that Divisors hands back. -/
def DivsPost (n : Nat) (w : World) (e : Ending) (w' : World) : Prop :=
  ∃ G, e = .returned (.tuple #[.slice (some ⟨G, 0, none⟩) (divs n).length (divs n).length, .int .i64 0]) ∧ Reads w' (some ⟨G, 0, none⟩) (natInts (divs n)) ∧ Below w.heap.size w w'
/-- The slice that is made, the copy that is ranged over, the power: each apart. -/
structure DivI (w1 wr : World) (vo : Value) (X : List Nat) (gc cc Ln : Nat) (L : List Nat) (gp P M : Nat) : Prop where
  own : wr.ownsRow w1.heap.size 3 1 vo X.length (natInts X)
  cl : wr.ownsRow w1.heap.size 3 1 (.slice (some ⟨gc, 0, none⟩) Ln cc) Ln (natInts L)
  pw : wr.ownsRow w1.heap.size 83 2 (.slice (some ⟨gp, 0, none⟩) 1 1) 1 [.int .i64 P, .int .i64 M]
  n1 : vo.ownBlock ≠ some gc
  n2 : vo.ownBlock ≠ some gp
  bel : Below w1.heap.size w1 wr
theorem DivI.cells {w1 wr : World} {vo : Value} {X L : List Nat} {gc cc Ln gp P M : Nat} (h : DivI w1 wr vo X gc cc Ln L gp P M) : wr.cell? ⟨gp, 0, none⟩ = some (.int .i64 P) ∧ wr.cell? ⟨gp, 1, none⟩ = some (.int .i64 M) := lit2_cells h.pw
theorem DivI.copy {w1 wr : World} {vo : Value} {X L : List Nat} {gc cc Ln gp P M i d : Nat} (h : DivI w1 wr vo X gc cc Ln L gp P M) (hd : L[i]? = some d) : wr.cell? ⟨gc, i, none⟩ = some (.int .i64 d) := by
  obtain ⟨ao, cp, hv, hR, _⟩ := own_reads h.cl
  injection hv with e1 e2 e3
  subst e1
  exact reads_cell0 hR (by rw [natInts_map, List.getElem?_map, List.getElem?_map, hd]; rfl)
theorem DivI.push {w1 w w' : World} {v v' : Value} {X L : List Nat} {gc cc Ln gp P M x : Nat} {o : Obj} (h : DivI w1 w v X gc cc Ln L gp P M)
    (hown : w'.ownsRow w1.heap.size 3 1 v' (X.length + 1) (natInts X ++ [.int .i64 x])) (hgr : (w.alloc o).grownBy w' v.ownBlock) (hb : Below w1.heap.size w w') (hv : v'.ownBlock = v.ownBlock ∨ v'.ownBlock = some (w.heap.size + 1)) :
    DivI w1 w' v' (X ++ [x]) gc cc Ln L gp P M := by
  have hal : Below w.heap.size w (w.alloc o) := (Below.refl _ _).alloc (Nat.le_refl _) _
  have lc := (World.ownsRow.lt h.cl gc rfl).2
  have lp := (World.ownsRow.lt h.pw gp rfl).2
  refine ⟨by rw [List.length_append, List.length_singleton, ← natInts_cons]; exact hown, World.ownsRow.kept (own_below h.cl hal) hgr (.inr fun e => h.n1 e.symm), World.ownsRow.kept (own_below h.pw hal) hgr (.inr fun e => h.n2 e.symm), ?_, ?_, h.bel.trans hb⟩
  · rcases hv with hv | hv
    · rw [hv]; exact h.n1
    · rw [hv]; intro e; injection e with e; omega
  · rcases hv with hv | hv
    · rw [hv]; exact h.n2
    · rw [hv]; intro e; injection e with e; omega
set_option maxRecDepth 100000 in
set_option maxHeartbeats 4000000 in
theorem divide_Divisors (n : Nat) (w : World) (h1 : 1 ≤ n) (hn : n ≤ 1000000) :
    Calls Try.prog 49 #[.int .i64 n] w (DivsPost n w) := by
  go_enter Try.func49, Try.ntmps49
  go_wp2_with fail
  refine (prime_Factor n w h1 hn).mono ?_
  rintro e w1 ⟨l, v, hF, hll, rfl, hown, hbel⟩
  obtain ⟨ao, cp, rfl, hR, hnone, hmx⟩ := own_reads hown
  have HF := Lib.hid hF
  have HR := Lib.hid hR
  have HB := Lib.hid hbel
  have HOUT : Hid (∀ k, k ≤ l.length → (outD (l.take k)).length ≤ n ∧ ∀ x ∈ outD (l.take k), 1 ≤ x ∧ x ≤ n) := fun k hk => outD_len hF hk
  have HONE : Hid (∀ k, k ≤ l.length → 0 < (outD (l.take k)).length) := fun k hk => List.length_pos_of_mem (((divList_take hF k hk).mem 1).2 (Nat.one_dvd _))
  have HSORT := Lib.hid (outD_sort h1 hF)
  have HSL0 : (outD l).length = (divs n).length := by
    have h := congrArg List.length HSORT.out
    simpa using h
  have HSL := Lib.hid HSL0
  clear HSL0
  obtain ⟨len, hlen⟩ : ∃ len, l.length = len := ⟨_, rfl⟩
  rw [hlen] at hll HOUT HONE ⊢
  have HL := Lib.hid hlen
  have hO0 : Hid ((w1.alloc (.cells #[.int .i64 1] 3)).ownsRow w1.heap.size 3 1 (.slice (some ⟨w1.heap.size, 0, none⟩) 1 1) 1 [.int .i64 1]) := own_lit w1 w1.heap.size 3 [.int .i64 1] (Nat.le_refl _) (by unfold maxLen; simp)
  have hB0 : Hid (Below w1.heap.size w1 (w1.alloc (.cells #[.int .i64 1] 3))) := (Below.refl _ w1).alloc (Nat.le_refl _) _
  clear hF hR hnone hmx hown hbel hlen
  go_wp2_with fail
  go_loopw [6, 22] (fun vo vi wr => ∃ k : Nat, vi = .int .i64 k ∧ k ≤ len ∧ Hid (wr.ownsRow w1.heap.size 3 1 vo (outD (l.take k)).length (natInts (outD (l.take k)))) ∧ Hid (Below w1.heap.size w1 wr)) (fun _ vi _ => len - (intOf vi).toNat)
  case atStart => exact ⟨0, rfl, by omega, hO0, hB0⟩
  case round =>
    obtain ⟨k, rfl, hk, hO, hb⟩ := hrel
    obtain ⟨wo, rfl⟩ : ∃ wo, wo = wr := ⟨_, rfl⟩
    clear hO0 hB0
    by_cases hkl : k < len
    · obtain ⟨a, ha⟩ : ∃ a, l[k]? = some a := ⟨l[k]'(by rw [HL.out]; exact hkl), List.getElem?_eq_getElem _⟩
      obtain ⟨P, M⟩ := a
      have hnext : outD (l.take (k + 1)) = stepD (outD (l.take k)) (P, M) := by rw [take_snoc2 l k _ ha, outD_snoc]
      have hK := HOUT.out k (by omega)
      have hK1 := HOUT.out (k + 1) (by omega)
      have hK0 := HONE.out k (by omega)
      rw [hnext] at hK1
      obtain ⟨L, hL⟩ : ∃ L, outD (l.take k) = L := ⟨_, rfl⟩
      rw [hL] at hO hK hK0 hK1 hnext
      obtain ⟨Ln, hLn⟩ : ∃ Ln, L.length = Ln := ⟨_, rfl⟩
      obtain ⟨go, co, rfl, hO1⟩ := own_formK hO.out (natInts_ne hK0) hLn
      have HO1 := Lib.hid hO1
      obtain ⟨ad, kd, hv, hRd, _, k1, k2⟩ := own_dataK hO1
      cases hv
      have hPb : P ≤ n := by
        have hma := List.mem_of_getElem? ha
        have := Nat.le_of_dvd (by omega) (show P ∣ n by have h := dvd_prodPow hma (HF.out.pr _ hma).2; rwa [HF.out.prod] at h)
        exact this
      have hMb : M ≤ 1000000 := by
        have hma := List.mem_of_getElem? ha
        have h5 : P ^ M ≤ n := by
          have e1 := (prodPow_take HF.out ha).1
          have e2 := (prodPow_take_le HF.out (k + 1)).2
          have e3 := (prodPow_take_le HF.out k).1
          rw [e1] at e2
          exact Nat.le_trans (Nat.le_mul_of_pos_left _ e3) e2
        have h6 := succ_le_pow (HF.out.pr _ hma).1.1 M
        simp only at h6
        omega
      have hc1 := powCells_get l k _ ha
      have hR2 := (HR.out).below hb.out
      obtain ⟨b, of, rfl, hcell1⟩ := hR2 _ _ hc1.1
      obtain ⟨b', of', hbo, hcell2⟩ := hR2 _ _ hc1.2
      simp only [Option.some.injEq, Addr.mk.injEq, and_true] at hbo
      obtain ⟨rfl, rfl⟩ := hbo
      have hcell1' : wo.cell? ⟨b, of + k * 2, none⟩ = some (.int .i64 P) := hcell1
      have hcell2' : wo.cell? ⟨b, of + k * 2 + 1, none⟩ = some (.int .i64 (M : Int)) := hcell2
      obtain ⟨W8, hW8⟩ : ∃ W8, wo.alloc (.cells #[.int .i64 P, .int .i64 (M : Int)] 83) = W8 := ⟨_, rfl⟩
      have hal : Below wo.heap.size wo W8 := by rw [← hW8]; exact (Below.refl _ wo).alloc (Nat.le_refl _) _
      have hpw : W8.ownsRow w1.heap.size 83 2 (.slice (some ⟨wo.heap.size, 0, none⟩) 1 1) 1 [.int .i64 P, .int .i64 M] := by rw [← hW8]; exact own_lit2 wo _ _ _ _ hb.out.size
      have hlo := World.ownsRow.lt hO1 go rfl
      have hsz8 : W8.heap.size = wo.heap.size + 1 := by rw [← hW8]; exact World.size_alloc _ _
      have CC := Lib.hid (clone_i64 Ln (natInts L) (some ⟨go, 0, none⟩) co W8.heap.size W8 (by omega) (by simp [natInts, hLn]) (fun h => by cases h) (Lib.hid (hRd.below hal)) (Lib.hid (by intro u hu; rw [natInts_map] at hu; obtain ⟨z, _, rfl⟩ := List.mem_map.1 hu; rfl)) (Nat.le_refl _))
      have DI0 : ∀ (w5 : World) (gc cc : Nat), w5.ownsRow W8.heap.size 3 1 (.slice (some ⟨gc, 0, none⟩) Ln cc) Ln (natInts L) → Below W8.heap.size W8 w5 → Hid (DivI w1 w5 (.slice (some ⟨go, 0, none⟩) Ln co) L gc cc Ln L wo.heap.size P M) := fun w5 gc cc h5 h6 => Lib.hid (by
        have l5 := World.ownsRow.lt h5 gc rfl
        refine ⟨by rw [hLn]; exact own_below (own_below hO1 hal) h6, own_mono h5 (Nat.le_trans hb.out.size hal.size), own_below hpw h6, ?_, ?_, hb.out.trans ((hal.mono hb.out.size).trans (h6.mono (Nat.le_trans hb.out.size hal.size)))⟩
        · intro e
          have e2 : go = gc := Option.some.inj e
          have := l5.1
          have := hlo.2
          omega
        · intro e
          have e2 : go = wo.heap.size := Option.some.inj e
          have := hlo.2
          omega)
      have HL2 := Lib.hid hLn
      have HNX := Lib.hid hnext
      have HK1 := Lib.hid hK1
      have Ln0 : Ln ≤ 1000000 := by omega
      have L1 : 1 ≤ Ln := by omega
      have hne : natInts L ≠ [] := natInts_ne hK0
      have HNE := Lib.hid hne
      have hcz := (lit2_cells hpw)
      have c81 := hcz.1
      have c82 := hcz.2
      clear hne hcz hpw hal hlo hRd hO1 hO HO1 hR2 hc1 hL hLn hnext hK hK1 hK0 ha hcell1 hcell2 k1 k2
      go_wp2_with (first
        | (go_at_call 73; refine CC.out.mono ?_; rintro e w5 ⟨v5, rfl, hown5, hb5⟩; obtain ⟨gc, cc, rfl⟩ := own_form hown5 HNE.out; have hD5 := DI0 w5 gc cc hown5 hb5; clear hown5 hb5)
        | fail)
      go_loopw [6, 29] (fun vo vi wr => ∃ i : Nat, vi = .int .i64 i ∧ i ≤ Ln ∧ Hid (DivI w1 wr vo (midD L P M i) gc cc Ln L wo.heap.size P M)) (fun _ vi _ => Ln - (intOf vi).toNat)
      case atStart => exact ⟨0, rfl, by omega, by rw [midD_zero]; exact hD5⟩
      case round =>
        clear hD5 CC DI0 c81 c82 hcell1' hcell2' hW8 hsz8
        obtain ⟨i, rfl, hi, hD⟩ := hrel
        obtain ⟨wm, rfl⟩ : ∃ wm, wm = wr := ⟨_, rfl⟩
        by_cases hil : i < Ln
        · obtain ⟨d, hd⟩ : ∃ d, L[i]? = some d := ⟨L[i]'(by rw [HL2.out]; exact hil), List.getElem?_eq_getElem _⟩
          have hx0 := hD.out.copy hd
          obtain ⟨hp1, hp2⟩ := hD.out.cells
          have i0 : (0 : Int) ≤ (i : Int) := by omega
          have i1 : (i : Int) < (Ln : Int) := by omega
          have HDI := Lib.hid hd
          clear hd
          go_wp2_with fail
          go_loopw [6, 10, 35] (fun vo vd vj wr => ∃ j : Nat, vj = .int .i64 j ∧ j ≤ M ∧ vd = .int .i64 ((d * P ^ j : Nat) : Int) ∧ Hid (DivI w1 wr vo (midD L P M i ++ mulsP P d j) gc cc Ln L wo.heap.size P M)) (fun _ _ vj _ => M - (intOf vj).toNat)
          case atStart => exact ⟨0, rfl, by omega, by rw [Nat.pow_zero, Nat.mul_one], by rw [show mulsP P d 0 = [] from rfl, List.append_nil]; exact hD⟩
          case round =>
            clear hx0 hp1 hp2 hD
            obtain ⟨j, rfl, hj, rfl, hD⟩ := hrel
            obtain ⟨wi, rfl⟩ : ∃ wi, wi = wr := ⟨_, rfl⟩
            by_cases hjm : j < M
            · obtain ⟨hp1, hp2⟩ := hD.out.cells
              have hmem := HK1.out.2 _ (mul_mem (List.mem_of_getElem? HDI.out) hjm)
              have hlen := mid_le (p := P) (d := d) (show i < L.length by rw [HL2.out]; exact hil) hjm
              have hlen2 := HK1.out.1
              have hmul : ((d * P ^ j : Nat) : Int) * (P : Int) = ((d * P ^ (j + 1) : Nat) : Int) := by rw [Nat.pow_succ, ← Nat.mul_assoc, Int.natCast_mul (d * P ^ j) P]
              obtain ⟨X, hX⟩ : ∃ X, midD L P M i ++ mulsP P d j = X := ⟨_, rfl⟩
              rw [hX] at hD hlen
              obtain ⟨N, hN⟩ : ∃ N, X.length = N := ⟨_, rfl⟩
              have hO := hD.out.own
              rw [hN] at hO hlen
              have HO := Lib.hid hO
              have hbs := hD.out.bel.size
              obtain ⟨x, hx⟩ : ∃ x, d * P ^ j = x := ⟨_, rfl⟩
              obtain ⟨y, hy⟩ : ∃ y, d * P ^ (j + 1) = y := ⟨_, rfl⟩
              rw [hx, hy] at hmul
              rw [hy] at hmem
              have wy : IntKind.i64.wrap ((x : Int) * (P : Int)) = (y : Int) := by rw [hmul]; exact IntWalk.i64_in _ (by omega)
              have HX := Lib.hid hX
              have HY := Lib.hid hy
              have HN := Lib.hid hN
              have m1 : Hid (N + 1 ≤ maxLen) := Lib.hid (by unfold maxLen; omega)
              have m2 : Hid ((N + 1) * 8 ≤ 140737488355328) := Lib.hid (by omega)
              have j0 : (0 : Int) ≤ (j : Int) := by omega
              have j1 : (j : Int) < (M : Int) := by omega
              rw [hx]
              clear hx hy hX hN hO hmul hlen hlen2
              go_wp2_with (first
                | (at_builtin; go_must (refine app_one2 rfl (.tmp 41) (.tmp 43) 32 rfl w1.heap.size 3 _ 1 8 Try.underlying32 i64InfoC _ N (natInts X) (by rfl) HO.out [.int .i64 y] (by rfl) rfl (by intro u hu; simp at hu; subst hu; rfl) m1.out m2.out hbs ?_); intro v8 w8 hown8 hgr8 hb8 hvb8; have hD8 := hD.out.push (x := y) (by rw [HN.out]; exact hown8) hgr8 hb8 hvb8)
                | fail)
              have hD9 : Hid (DivI w1 w8 v8 (midD L P M i ++ mulsP P d (j + 1)) gc cc Ln L wo.heap.size P M) := by
                rw [mulsP_succ, ← List.append_assoc, HX.out, HY.out]; exact hD8
              clear hD8 hown8 hgr8 hb8 hvb8
              go_roundw
              case rel => exact ⟨j + 1, by go_num, by omega, by rw [HY.out], hD9⟩
              case measure => simp [intOf]; omega
            · obtain rfl : M = j := by omega
              go_wp2_with fail
              go_roundw
              case rel => exact ⟨i + 1, by go_num, by omega, by rw [midD_succ HDI.out]; exact hD⟩
              case measure => simp [intOf]; omega
        · obtain rfl : Ln = i := by omega
          go_wp2_with fail
          go_roundw
          case rel =>
            have e1 : midD L P M Ln = outD (l.take (k + 1)) := by rw [HNX.out, ← midD_all, HL2.out]
            have e2 := hD.out.own
            rw [e1] at e2
            exact ⟨k + 1, by go_num, by omega, e2, hD.out.bel⟩
          case measure => simp [intOf]; omega
    · obtain rfl : len = k := by omega
      have e1 : l.take len = l := List.take_of_length_le (by rw [HL.out]; exact Nat.le_refl _)
      have hpos := HONE.out len (Nat.le_refl _)
      have hle := (HOUT.out len (Nat.le_refl _)).1
      rw [e1] at hO hpos hle
      rw [HSL.out] at hle
      obtain ⟨g, cg, rfl, hO1⟩ := own_formK hO.out (natInts_ne hpos) HSL.out
      rw [natInts_map] at hO1
      have CS := Lib.hid (sort_own _ _ _ w1.heap.size g cg wo hO1 (by omega) HSORT.out)
      obtain ⟨_, _, hv, _, _, k1, k2⟩ := own_dataK hO1
      cases hv
      have hgb := (World.ownsRow.lt hO1 g rfl).1
      obtain ⟨D, hD⟩ : ∃ D, (divs n).length = D := ⟨_, rfl⟩
      have HD := Lib.hid hD
      rw [hD] at CS k1 ⊢
      clear hD hO hO1 hpos hle e1
      go_wp2_with (first
        | (go_at_call 74; refine CS.out.mono ?_; rintro e w5 ⟨rfl, hown5, hg5⟩)
        | (go_at_call 75; refine (clip_int (some ⟨g, 0, none⟩) D cg w5 k2 k1).mono ?_; rintro e w6 ⟨rfl, rfl⟩)
        | fail)
      go_ret2
      obtain ⟨ao, c2, hv, hR5, _⟩ := own_reads hown5
      cases hv
      refine ⟨g, by rw [HD.out]; rfl, by rw [natInts_map]; exact hR5, ?_⟩
      exact HB.out.trans ((hb.out.grown hg5 hb.out.size (fun q hq => by cases hq; exact hgb)).mono HB.out.size)
end Go.Proofs.Ytmeffbooabionaa
