/- TopRows: the walk. -/
import Derived.Test.YtgdcmebhopjfaaaTrM45
import Derived.Test.YtgdcmebhopjfaaaTabB
namespace Go.Proofs.Ytgdcmebhopjfaaa
open Go.RowKit

set_option maxRecDepth 100000 in
set_option maxHeartbeats 16000000 in
theorem topRows_core (f : GF → GF) (Y : Nat → GF) (K N l a mm y : Nat) (a0 : Option Addr) (cap0 : Nat) (more lost at_ : Int) (w : World)
    (hY : Reads w a0 (rowF K (gfV Y))) (hf : f = lag gf Y K) (k1 : 1 ≤ K) (k8 : K ≤ 8) (hmore : -9223372036854775808 ≤ more ∧ more ≤ 9223372036854775807) (hlost : -9223372036854775808 ≤ lost ∧ lost ≤ 9223372036854775807) (hat : -9223372036854775808 ≤ at_ ∧ at_ ≤ 9223372036854775807)
    (hmm : more % 3 = (mm : Int)) (hN : K + 2 + mm = N) (hl : lost % (N : Int) = (l : Int)) (ha : at_ % (N : Int) = (a : Int)) (hy : y < 256) :
    Calls Try.prog 9 #[.slice a0 K cap0, .int .i64 more, .int .i64 lost, .int .i64 at_, .int .u8 y] w fun e w' => e = .returned (.bool true) ∧ Below w.heap.size w w' := by
  have hm3 : mm < 3 := by have := Int.emod_lt_of_pos more (show (0 : Int) < 3 by omega); omega
  have n12 : N ≤ 12 := by omega
  have n1 : 1 ≤ N := by omega
  have lN : l < N := by have := Int.emod_lt_of_pos lost (show (0 : Int) < N by omega); omega
  have aN : a < N := by have := Int.emod_lt_of_pos at_ (show (0 : Int) < N by omega); omega
  have hp : PolyF K f := by rw [hf]; exact lag_poly gfld _ _ _
  have CT := Lib.hid (fun X => top_works X)
  have CW1 : Hid (∀ X, Calls Try.prog 12 #[.int .i64 more, .int .i64 3] X fun e w' => e = .returned (.int .i64 mm) ∧ ∃ m, w' = X.drewN m) := fun X => by rw [← hmm]; exact keep_Within more 3 X hmore.1 hmore.2 (by omega) (by omega)
  have CW2 : Hid (∀ X, Calls Try.prog 12 #[.int .i64 lost, .int .i64 N] X fun e w' => e = .returned (.int .i64 l) ∧ ∃ m, w' = X.drewN m) := fun X => by rw [← hl]; exact keep_Within lost N X hlost.1 hlost.2 (by omega) (by omega)
  have CW3 : Hid (∀ X, Calls Try.prog 12 #[.int .i64 at_, .int .i64 N] X fun e w' => e = .returned (.int .i64 a) ∧ ∃ m, w' = X.drewN m) := fun X => by rw [← ha]; exact keep_Within at_ N X hat.1 hat.2 (by omega) (by omega)
  have CP : Hid (∀ X, Below w.heap.size w X → Calls Try.prog 55 #[.slice a0 K cap0, .int .i64 N] X fun e w' => ∃ g cap, e = .returned (.tuple #[.slice (some ⟨g, 0, none⟩) N cap, .int .i64 0]) ∧ Own w' X.heap.size 5 g N cap (gfV fun j => f (gf j)) ∧ Below X.heap.size X w') := fun X hX => by
    rw [hf]; exact reed_Put Y K N a0 cap0 X k1 (by omega) (by omega) (hY.below hX)
  have CPW := Lib.hid (fun g cap X (h : RowOk X ⟨some ⟨g, 0, none⟩, cap, List.range N⟩) => top_Powers N K g cap X h n1 n12 k1 (by omega))
  have CSO := Lib.hid (fun g cp T ao ca X (hT : TabIn X ao N T) (hz : zof T = ofM N K vanG) (hb : RowOk X ⟨some ⟨g, 0, none⟩, cp, (List.range N).map fun i => (f (gf i)).val⟩) => top_Solve N K g cp T ao ca X hp hT hz hb n1 n12 k1 (by omega))
  have CRK := Lib.hid (fun T ao ca X (hT : TabIn X ao N T) (hz : zof T = ofM N K vanG) => top_Rank N K T ao ca X hT hz n12 k1 (by omega))
  have CG3 := Lib.hid (fun ao X (h : Reads X ao [.int .i64 0, .int .i64 0, .int .i64 0]) => good_three ao 3 X h)
  have CG2 : Hid (∀ ao X wb, Below wb.heap.size wb X → Reads X ao [.int .i64 0, .int .i64 0] → Calls Try.prog 20 #[.slice ao 2 2] X fun e w' => e = .returned (.bool true) ∧ Below wb.heap.size wb w') := fun ao X wb hb h => (good_two ao 2 X h).mono fun e w' ⟨h1, m, h2⟩ => ⟨h1, by rw [h2]; exact below_drewN hb m⟩
  have CCL := Lib.hid (fun g cap X (h : Reads X (some ⟨g, 0, none⟩) (rowF N (gfV fun j => f (gf j)))) => clone_u8 N (rowF N (gfV fun j => f (gf j))) (some ⟨g, 0, none⟩) cap X.heap.size X (by omega) (rowF_length _ _) (fun h => by cases h) (Lib.hid h) (Lib.hid (rowF_one fun j => rfl)) (Nat.le_refl _))
  have CM := Lib.hid (fun ao cap X (h : Reads X ao (cellV (fun i => decide (i ≠ l)) (fun i => if i ≠ l then f (gf i) else 0) N)) => top_Mend N K l ao cap X hp n12 k1 (by omega) h)
  have CV := Lib.hid (fun ao cap X (h : Reads X ao (rowF N (gfV fun i => if i = a then f (gf i) + gf y else f (gf i)))) => top_Welch N K a y ao cap X hp n12 k1 k8 (by omega) aN hy h)
  have CE : Hid (∀ ao bo ca cb X, Reads X ao (rowF N (gfV fun j => f (gf j))) → Reads X bo (rowF N (gfV fun j => f (gf j))) → Calls Try.prog 58 #[.slice ao N ca, .slice bo N cb] X fun e w' => e = .returned (.bool true) ∧ Below X.heap.size X w') := fun ao bo ca cb X h1 h2 => (equal_gf (fun j => f (gf j)) N ao bo ca cb X (by omega) h1 h2).mono fun e w' ⟨h3, m, h4⟩ => ⟨h3, by rw [h4]; exact below_dr _ _ m⟩
  have z0 : ((K : Int) == 0) = false := beq_eq_false_iff_ne.2 (by omega)
  have z8 : decide ((8 : Int) < K) = false := by simp; omega
  have zN : (K : Int) + 2 + (mm : Int) = (N : Int) := by omega
  clear hY hf hmm hN hl ha hmore hlost hat hm3
  go_enter Try.func9, Try.ntmps9
  go_wp2_with (first
    | (go_at_call 15; (with_reducible refine (CT.out _).mono ?_); rintro e w1 ⟨rfl, b1⟩)
    | (go_at_call 12; (with_reducible refine (CW1.out _).mono ?_); rintro e w2 ⟨rfl, m2, rfl⟩)
    | (go_at_call 55; (with_reducible refine (CP.out _ (below_drewN b1 m2)).mono ?_); rintro e w3 ⟨g3, c3, rfl, O3, b3⟩; have q3 := (below_drewN b1 m2).trans (b3.mono b1.size))
    | fail)
  have Q3 := Lib.hid q3
  have HO3 := Lib.hid O3
  have zN2 := zN
  clear zN
  go_loopw [14, 64] (fun vo vi wr => ∃ i : Nat, vi = .int .i64 i ∧ i ≤ N ∧ Hid (wr.ownsRow w3.heap.size 5 1 vo i (u8s (List.range i))) ∧ Hid (Below w3.heap.size w3 wr)) (fun _ vi _ => N - (intOf vi).toNat)
  case atStart => exact ⟨0, rfl, by omega, World.ownsRow_nil _ _ _ _, Below.refl _ _⟩
  case round =>
    clear b1 b3 O3 q3
    obtain ⟨i, rfl, hi, hO, hb⟩ := hrel
    by_cases hin : i < N
    · have i0 : (0 : Int) ≤ (i : Int) := by omega
      have i1 : (i : Int) < (N : Int) := by omega
      have wi : IntKind.u8.wrap (i : Int) = (i : Int) := wrap_u8 i (by omega)
      have hE : u8s (List.range (i + 1)) = u8s (List.range i) ++ [.int .u8 (i : Int)] := by rw [List.range_succ, u8s_append]; rfl
      have HE := Lib.hid hE
      clear hE
      go_wp2_with (first
        | (at_builtin; go_must (refine app_one2 rfl (.tmp 67) (.tmp 70) 59 rfl w3.heap.size 5 _ 1 1 Try.underlying59 u8Info _ i (u8s (List.range i)) (by rfl) hO.out [.int .u8 (i : Int)] (by rfl) rfl (by intro u hu; simp at hu; subst hu; rfl) (by unfold maxLen; omega) (by omega) hb.out.size ?_); intro v8 w8 hown8 hgr8 hb8 hvb8)
        | fail)
      have hO8 : Hid (w8.ownsRow w3.heap.size 5 1 v8 (i + 1) (u8s (List.range (i + 1)))) := by rw [HE.out]; exact hown8
      have hB8 := Lib.hid (hb.out.trans hb8)
      clear hown8 hgr8 hb8 hvb8
      go_roundw
      case rel => exact ⟨i + 1, by go_num, by omega, hO8, hB8⟩
      case measure => simp [intOf]; omega
    · obtain rfl : N = i := by omega
      obtain ⟨gx, cx, rfl, hrx, _, _, _⟩ := row_made hO.out (fun z hz => by have := List.mem_range.1 hz; omega) n1
      have HRX := Lib.hid hrx
      have hO3 := HO3.out.below hb.out
      obtain ⟨ao3, cp3, hv3, hR3, _, cc1, cc2⟩ := own_dataK hO3
      cases hv3
      have hrow : RowOk wr ⟨some ⟨g3, 0, none⟩, c3, (List.range N).map fun i => (f (gf i)).val⟩ := ⟨(fun e => by cases e), by simp only [List.length_map, List.length_range]; exact cc1, cc2, (by rw [u8s_gv]; exact hR3), fun z hz => by obtain ⟨j, _, rfl⟩ := List.mem_map.1 hz; exact GF.lt _⟩
      have HRW := Lib.hid hrow
      have HR3 := Lib.hid hR3
      have QX : Below w.heap.size w wr := Q3.out.trans (hb.out.mono Q3.out.size)
      obtain ⟨wo, rfl⟩ : ∃ wo, wo = wr := ⟨_, rfl⟩
      have qx0 := QX
      clear hO hb hrx hO3 hR3 hrow
      go_wp2_with (first
        | (go_at_call 47; (with_reducible refine (CPW.out _ _ _ HRX.out).mono ?_); rintro e w4 ⟨ao4, ca4, T, rfl, hT, hz, b4⟩; have HZ := Lib.hid hz; clear hz; have q4 := QX.trans (b4.mono QX.size))
        | (go_at_call 44; (with_reducible refine (CSO.out _ _ T _ _ _ hT HZ.out (HRW.out.below b4)).mono ?_); rintro e w5 ⟨g5, c5, rfl, b5⟩; have q5 := q4.trans (b5.mono q4.size))
        | (go_at_call 35; (with_reducible refine (CRK.out T _ _ _ (hT.below b5) HZ.out).mono ?_); rintro e w6 ⟨rfl, b6⟩; have q6 := q5.trans (b6.mono q5.size))
        | (go_at_call 20; (with_reducible refine (CG3.out _ _ (reads_new _ #[.int .i64 0, .int .i64 0, .int .i64 0] _)).mono ?_); rintro e w7 ⟨rfl, m7, rfl⟩; have B7 := below_drewN ((Below.refl w6.heap.size w6).alloc (Nat.le_refl _) (.cells #[.int .i64 0, .int .i64 0, .int .i64 0] 26)) m7; have q7 := q6.trans (B7.mono q6.size))
        | (go_at_call 12; (with_reducible refine (CW2.out _).mono ?_); rintro e w8 ⟨rfl, m8, rfl⟩)
        | (go_at_call 12; (with_reducible refine (CW3.out _).mono ?_); rintro e w9 ⟨rfl, m9, rfl⟩)
        | (at_make; generalize hWW : World.drewN _ _ = W9; have p5 := b4.trans (b5.mono b4.size); have p6 := p5.trans (b6.mono p5.size); have p9 : Below wo.heap.size wo W9 := (by rw [← hWW]; exact p6.trans ((below_drewN ((Below.refl w6.heap.size w6).alloc (Nat.le_refl _) _) _).mono p6.size)); clear hWW p5 p6; refine make_len rfl _ _ 79 rfl W9.heap.size 81 _ 2 2 Try.underlying79 cellInfo _ _ _ _ N (by rfl) (by rfl) rfl rfl (by omega) (by unfold maxLen; omega) (Nat.le_refl _) ?_; intro w10 hown10 hg10; have hc10 := own_flat hown10 (by omega) (cellF_zero (fun j => f (gf j)) l N); have b10 := below_of_grown hg10 (Nat.le_refl W9.heap.size) (fun k hk => by cases hk); have hG10 := hc10.lt; have HC10 := Lib.hid hc10; have p10 := p9.trans (b10.mono p9.size); clear hown10 hg10 hc10)
        | (go_at_call 45; (with_reducible refine (CCL.out _ _ _ (HR3.out.below p10)).mono ?_); rintro e w11 ⟨v11, rfl, ho11, b11⟩; obtain ⟨gb, cb, rfl⟩ := own_form ho11 (fun e => by have := congrArg List.length e; rw [rowF_length, List.length_nil] at this; omega); have hob : Own w11 w10.heap.size 5 gb N cb (gfV fun j => f (gf j)) := ho11; have xb := hob.cell aN; have fb := hob.frozen a; have hgb := hob.lt; have HOB := Lib.hid hob; clear ho11 hob; have hxb : gfV (fun j => f (gf j)) a = .int .u8 ((f (gf a)).val : Int) := rfl; rw [hxb] at xb; clear hxb; obtain ⟨pa, hpa⟩ : ∃ pa, (f (gf a)).val = pa := ⟨_, rfl⟩; have pa256 : pa < 256 := (by rw [← hpa]; exact GF.lt _); rw [hpa] at xb; obtain ⟨sa, hsa⟩ : ∃ sa : Nat, pa ^^^ y = sa := ⟨_, rfl⟩; have e1 : bits .xor .u8 (pa : Int) (y : Int) = (sa : Int) := (by rw [u8_xor_nat pa y pa256 hy, hsa]); have HSA : Hid ((f (gf a) + gf y).val = sa) := Lib.hid (by rw [GF.add_val, gf_val hy, hpa, hsa]); clear hpa hsa; have i0 : (0 : Int) ≤ (a : Int) := (by omega); have i1 : (a : Int) < (N : Int) := (by omega))
        | fail)
      have st := HOB.out.store a (.int .u8 (sa : Int))
      generalize hX : World.setCell _ _ _ = W12
      rw [hX] at st
      have hbad : Own W12 w10.heap.size 5 gb N cb (gfV fun i => if i = a then f (gf i) + gf y else f (gf i)) := st.1.congr fun j _ => by
        by_cases h : j = a
        · rw [if_pos h]
          unfold gfV
          simp only [if_pos h]
          rw [h, HSA.out]
        · rw [if_neg h]
          unfold gfV
          simp only [if_neg h]
      have HBAD := Lib.hid hbad
      have b12 := b11.grown st.2 b11.size (fun q hq => by cases hq; exact hgb.1)
      have HC12 := Lib.hid (HC10.out.below b12)
      have HB12 := Lib.hid (b10.trans (b12.mono b10.size))
      have P9 := Lib.hid p9
      have QO := Lib.hid qx0
      have hgw : W9.heap.size < gb := by have := hgb.1; have := hG10.2; omega
      clear hX st hbad xb fb b11 b12 hgb HOB b10 p10 p9 qx0 HC10 hG10 i0 i1 e1 HSA b4 b5 b6 B7 q4 q5 q6 q7 hT HZ HRX HRW CPW CSO CRK CG3 CCL CP CT CW1 CW2 CW3
      go_loopw [129] (fun vi wr => ∃ i : Nat, vi = .int .i64 i ∧ i ≤ N ∧ Hid (Own wr W9.heap.size 81 W9.heap.size (N * 2) (N * 2) (cellF (fun j => f (gf j)) l i)) ∧ Hid (Own wr w10.heap.size 5 gb N cb (gfV fun i => if i = a then f (gf i) + gf y else f (gf i))) ∧ Hid (Below W9.heap.size W9 wr)) (fun vi _ => N - (intOf vi).toNat)
      case atStart => exact ⟨0, rfl, by omega, HC12, HBAD, HB12⟩
      case round =>
        clear HC12 HBAD HB12
        obtain ⟨i, rfl, hi, hC, hD, hb⟩ := hrel
        obtain ⟨wi, rfl⟩ : ∃ wi, wi = wr := ⟨_, rfl⟩
        by_cases hin : i < N
        · have j0 : (0 : Int) ≤ (i : Int) := by omega
          have j1 : (i : Int) < (N : Int) := by omega
          by_cases hil : i = l
          · have e2 : ((i : Int) != (l : Int)) = false := by simp; omega
            have hC2 : Hid (Own wi W9.heap.size 81 W9.heap.size (N * 2) (N * 2) (cellF (fun j => f (gf j)) l (i + 1))) := hC.out.congr fun t _ => by rw [hil]; exact (cellF_skip _ l N t).symm
            go_wp2_with fail
            go_roundw
            case rel => exact ⟨i + 1, by go_num, by omega, hC2, hD, hb⟩
            case measure => simp [intOf]; omega
          · have e2 : ((i : Int) != (l : Int)) = true := by simp; omega
            have xr := reads_cell0 (HR3.out.below (P9.out.trans (hb.out.mono P9.out.size))) (rowF_get _ hin)
            have hxr : gfV (fun j => f (gf j)) i = .int .u8 ((f (gf i)).val : Int) := rfl
            rw [hxr] at xr
            have s1 := hC.out.store (i * 2) (.bool true)
            have s2 := s1.1.store (i * 2 + 1) (gfV (fun j => f (gf j)) i)
            rw [hxr] at s2
            have c1 := hC.out.cell (show i * 2 < N * 2 by omega)
            have c2 := hC.out.cell (show i * 2 + 1 < N * 2 by omega)
            have v1 : cellF (fun j => f (gf j)) l i (i * 2) = .bool false := by unfold cellF; rw [if_pos (by omega), decide_eq_false (by omega)]
            have v2 : cellF (fun j => f (gf j)) l i (i * 2 + 1) = .int .u8 0 := by unfold cellF; rw [if_neg (by omega), if_neg (by omega)]
            rw [v1] at c1
            rw [v2] at c2
            have f1 := hC.out.frozen (i * 2)
            have f2 := hC.out.frozen (i * 2 + 1)
            have S1 := Lib.hid s1
            have S2 := Lib.hid s2
            have hC2 : Hid (Own ((wi.setCell ⟨W9.heap.size, i * 2, none⟩ (.bool true)).setCell ⟨W9.heap.size, i * 2 + 1, none⟩ (.int .u8 ((f (gf i)).val : Int))) W9.heap.size 81 W9.heap.size (N * 2) (N * 2) (cellF (fun j => f (gf j)) l (i + 1))) := s2.1.congr fun t _ => cellF_step (fun j => f (gf j)) hil t
            have hD2 : Hid (Own ((wi.setCell ⟨W9.heap.size, i * 2, none⟩ (.bool true)).setCell ⟨W9.heap.size, i * 2 + 1, none⟩ (.int .u8 ((f (gf i)).val : Int))) w10.heap.size 5 gb N cb (gfV fun i => if i = a then f (gf i) + gf y else f (gf i))) := (hD.out.kept s1.2 (by omega)).kept s2.2 (by omega)
            have hb1 := hb.out.grown s1.2 hb.out.size (fun q hq => by cases hq; exact Nat.le_refl _)
            have hB2 : Hid (Below W9.heap.size W9 ((wi.setCell ⟨W9.heap.size, i * 2, none⟩ (.bool true)).setCell ⟨W9.heap.size, i * 2 + 1, none⟩ (.int .u8 ((f (gf i)).val : Int)))) := Lib.hid (hb1.grown s2.2 hb1.size (fun q hq => by cases hq; exact Nat.le_refl _))
            clear s1 s2 v1 v2 hxr S1 S2 hb1
            go_wp2_with fail
            go_roundw
            case rel => exact ⟨i + 1, by go_num, by omega, hC2, hD2, hB2⟩
            case measure => simp [intOf]; omega
        · obtain rfl : N = i := by omega
          have hRC := hC.out.reads
          rw [cellF_done] at hRC
          have HRC := Lib.hid hRC
          have HRD := Lib.hid hD.out.reads
          have R3 : Hid (Reads wi (some ⟨g3, 0, none⟩) (rowF N (gfV fun j => f (gf j)))) := HR3.out.below (P9.out.trans (hb.out.mono P9.out.size))
          have t1 := QO.out.trans (P9.out.mono QO.out.size)
          have t2 := t1.trans (hb.out.mono t1.size)
          clear hRC hC hD t1
          have hzy : ∃ B : Bool, ((y : Int) == 0) = B ∧ (((if y = 0 then 0 else 1 : Int)) == 0) = B := by
            by_cases h : y = 0
            · exact ⟨true, by simp [h], by rw [if_pos h]; rfl⟩
            · exact ⟨false, by simp; omega, by rw [if_neg h]; rfl⟩
          obtain ⟨B, zy, zq⟩ := hzy
          obtain ⟨q, hq⟩ : ∃ q : Int, (if y = 0 then 0 else 1 : Int) = q := ⟨_, rfl⟩
          rw [hq] at zq CV
          clear hq
          cases B
          all_goals
            go_wp2_with (first
              | (go_at_call 56; (with_reducible refine (CM.out _ _ _ HRC.out).mono ?_); rintro e w13 ⟨v13, rfl, o13, b13⟩; obtain ⟨ao13, c13, rfl, r13, _⟩ := own_reads o13; clear o13; have t13 := t2.trans (b13.mono t2.size))
              | (go_at_call 57; (with_reducible refine (CV.out _ _ _ (HRD.out.below b13)).mono ?_); rintro e w14 ⟨v14, rfl, o14, b14⟩; obtain ⟨ao14, c14, rfl, r14, _⟩ := own_reads o14; clear o14; have t14 := t13.trans (b14.mono t13.size))
              | (go_at_call 20; (with_reducible refine (CG2.out _ _ w14 ((Below.refl w14.heap.size w14).alloc (Nat.le_refl _) _) (reads_new _ #[.int .i64 0, .int .i64 0] _)).mono ?_); rintro e w15 ⟨rfl, b15⟩; have t15 := t14.trans (b15.mono t14.size))
              | (go_at_call 58; (with_reducible refine (CE.out _ _ _ _ _ ((r13.below b14).below b15) (((R3.out.below b13).below b14).below b15)).mono ?_); rintro e w16 ⟨rfl, b16⟩; have t16 := t15.trans (b16.mono t15.size))
              | (go_at_call 58; (with_reducible refine (CE.out _ _ _ _ _ ((r14.below b15).below b16) ((((R3.out.below b13).below b14).below b15).below b16)).mono ?_); rintro e w17 ⟨rfl, b17⟩; have t17 := t16.trans (b17.mono t16.size))
              | fail)
            go_ret
            exact ⟨rfl, t17⟩
end Go.Proofs.Ytgdcmebhopjfaaa
