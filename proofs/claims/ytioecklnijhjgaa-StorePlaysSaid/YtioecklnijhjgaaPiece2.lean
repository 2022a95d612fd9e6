/- piece.Split. -/
import Derived.Test.YtioecklnijhjgaaPlM6
import Derived.Test.YtioecklnijhjgaaReed6
set_option linter.unusedVariables false
set_option linter.unusedSimpArgs false
namespace Go.Proofs.Ytioecklnijhjgaa
open Go.RowKit

/-- Byte t of column i. -/
def datP (s : ByteArray) (m i t : Nat) : Nat := if t * m + i < s.size then byteS s (t * m + i) else 0
theorem datP_lt (s : ByteArray) (m i t : Nat) : datP s m i t < 256 := by unfold datP; split; exact byteS_lt _ _; omega
def ysP (s : ByteArray) (m i : Nat) (t : Nat) : GF := gf (datP s m i t)
/-- Byte i of part j. -/
def pcF (s : ByteArray) (k j i : Nat) : Nat := (lag gf (ysP s (sizeN s.size k) i) k (gf j)).val
theorem pcF_lt (s : ByteArray) (k j i : Nat) : pcF s k j i < 256 := (lag gf (ysP s (sizeN s.size k) i) k (gf j)).lt
def SplitPost (s : ByteArray) (k n : Nat) (w : World) (e : Ending) (w' : World) : Prop :=
  ∃ g, e = .returned (.tuple #[.slice (some ⟨g, 0, none⟩) n n, .int .i64 0]) ∧ Own w' w.heap.size 9 g n n (fun j => .string (pieceS s.size (sizeN s.size k) (pcF s k j))) ∧ Below w.heap.size w w'
theorem rowsInfoP : ElemRow Try.prog 73 (.slice none 0 0) 1 24 := elemRow_of (by kernel_rfl) rfl (by omega)
theorem strInfoP : ElemRow Try.prog 9 (.string ByteArray.empty) 1 16 := elemRow_of (by kernel_rfl) rfl (by omega)
theorem dat_row (s : ByteArray) (m i k : Nat) : rowF k (fun t => .int .u8 (datP s m i t : Nat)) = rowF k (gfV (ysP s m i)) := by
  apply rowF_congr
  intro j _
  unfold gfV ysP
  rw [gf_val (datP_lt s m i j)]
set_option maxRecDepth 100000 in
set_option maxHeartbeats 8000000 in
theorem piece_Split (s : ByteArray) (k n : Nat) (w : World) (hs : s.size ≤ 60) (hk : 1 ≤ k) (hkn : k ≤ n) (hn : n ≤ 10) :
    Calls Try.prog 42 #[.string s, .int .i64 k, .int .i64 n] w (SplitPost s k n w) := by
  have CR := Lib.hid (piece_right (k : Int) (n : Int) w)
  have hrb : rightB (k : Int) (n : Int) = true := by unfold rightB; simp; omega
  rw [hrb] at CR
  have hT : decide ((60 : Int) < s.size) = false := by simp; omega
  obtain ⟨m, hm⟩ : ∃ m, sizeN s.size k = m := ⟨_, rfl⟩
  have CZ := Lib.hid (fun W => piece_size s.size k W (by omega) hk (by omega))
  have hmb : m ≤ 60 := by rw [← hm]; exact Nat.le_trans (sizeN_le hk) hs
  rw [hm] at CZ
  have HM := Lib.hid hm
  clear hrb hm
  go_enter Try.func42, Try.ntmps42
  go_wp2_with fail
  (with_reducible refine CR.out.mono ?_)
  rintro e w1 ⟨rfl, rfl⟩
  go_wp2_with fail
  (with_reducible refine (CZ.out _).mono ?_)
  rintro e w1 ⟨rfl, rfl⟩
  go_wp2_with (first
    | (at_make; refine make_own rfl _ _ 111 rfl w.heap.size 73 _ 24 Try.underlying111 rowsInfoP rfl _ _ _ _ n (by rfl) (by rfl) rfl rfl (by omega) (by unfold maxLen; omega) (Nat.le_refl _) ?_; intro w2 hown hg2; have HP := Lib.hid (Parts.start (F := pcF s k) hown); have HB := Lib.hid (below_of_grown hg2 (Nat.le_refl _) (fun q hq => by cases hq)); clear hown hg2)
    | fail)
  obtain ⟨gp, hgp⟩ : ∃ gp, w.heap.size = gp := ⟨_, rfl⟩
  have HGP := Lib.hid hgp
  rw [hgp] at HP ⊢
  clear hgp
  go_loopw [37] (fun vi wr => ∃ i : Nat, vi = .int .i64 i ∧ i ≤ m ∧ Hid (Parts wr gp gp n (fun _ => i) (pcF s k) (fun g => g = gp)) ∧ Hid (Below w.heap.size w wr)) (fun vi _ => m - (intOf vi).toNat)
  case atStart => exact ⟨0, rfl, by omega, HP, HB⟩
  case round =>
    clear HP HB
    obtain ⟨i, rfl, hi, HP, HB⟩ := hrel
    obtain ⟨wo, rfl⟩ : ∃ wo, wo = wr := ⟨_, rfl⟩
    by_cases him : i < m
    · go_wp2_with (first
        | (at_make; refine make_own rfl _ _ 73 rfl wo.heap.size 5 _ 1 Try.underlying73 u8InfoP rfl _ _ _ _ k (by rfl) (by rfl) rfl rfl (by omega) (by unfold maxLen; omega) (Nat.le_refl _) ?_; intro w2 hown hg2; have HD := Lib.hid hown; have HB2 := Lib.hid (below_of_grown hg2 (Nat.le_refl _) (fun q hq => by cases hq)); clear hown hg2)
        | fail)
      obtain ⟨gd, hgd⟩ : ∃ gd, wo.heap.size = gd := ⟨_, rfl⟩
      have HGD := Lib.hid hgd
      have HD0 : Hid (Own w2 gd 5 gd k k (fun t => .int .u8 ((if t < 0 then datP s m i t else 0 : Nat) : Int))) := Lib.hid (by rw [← hgd]; exact HD.out.congr fun t _ => by rw [if_neg (by omega)]; rfl)
      have HP2 := Lib.hid (HP.out.below HB2.out)
      have HB3 := Lib.hid (HB.out.trans (HB2.out.mono HB.out.size))
      have HGG : Hid (gp < gd) := Lib.hid (by rw [← hgd]; exact HP.out.lt.2)
      have HB2' : Hid (Below gd wo w2) := Lib.hid (by rw [← hgd]; exact HB2.out)
      rw [hgd]
      clear HD hgd HB2
      go_wp2_with fail
      go_loopw [13, 43] (fun _ vt wi => ∃ t : Nat, vt = .int .i64 t ∧ t ≤ k ∧ Hid (Own wi gd 5 gd k k (fun r => .int .u8 ((if r < t then datP s m i r else 0 : Nat) : Int))) ∧ Hid (Below gd wo wi)) (fun _ vt _ => k - (intOf vt).toNat)
      case atStart => exact ⟨0, rfl, by omega, HD0, HB2'⟩
      case round =>
        clear HD0 HB2' HP2 HB3
        obtain ⟨t, rfl, ht, HD, HBi⟩ := hrel
        obtain ⟨wi, rfl⟩ : ∃ wi, wi = wr := ⟨_, rfl⟩
        by_cases htk : t < k
        · obtain ⟨a, ha⟩ : ∃ a, t * m + i = a := ⟨_, rfl⟩
          have htm : t * m ≤ 600 := Nat.mul_le_mul (show t ≤ 10 by omega) hmb
          have a1 : (t : Int) * (m : Int) = ((t * m : Nat) : Int) := by push_cast; rfl
          obtain ⟨b, hb⟩ : ∃ b, t * m = b := ⟨_, rfl⟩
          rw [hb] at a1 ha htm
          have a2 : (b : Int) + (i : Int) = (a : Int) := by omega
          have wb : IntKind.i64.wrap (b : Int) = (b : Int) := IntWalk.i64_in _ (by omega)
          have wa : IntKind.i64.wrap (a : Int) = (a : Int) := IntWalk.i64_in _ (by omega)
          have hdat : Hid (datP s m i t = if a < s.size then byteS s a else 0) := Lib.hid (by unfold datP; rw [hb, ha])
          clear ha hb
          by_cases has : a < s.size
          · have t1 : decide ((a : Int) < (s.size : Int)) = true := by simp; omega
            have hbs := byteS_get s a has
            obtain ⟨c, hc⟩ : ∃ c, byteS s a = c := ⟨_, rfl⟩
            have p1 := HD.out.cell htk
            have f1 := HD.out.frozen t
            have A1 := HD.out.store t (.int .u8 ((s[a].toNat : Nat) : Int))
            have O2 : Hid (Own (wi.setCell ⟨gd, t, none⟩ (.int .u8 ((s[a].toNat : Nat) : Int))) gd 5 gd k k (fun r => .int .u8 ((if r < t + 1 then datP s m i r else 0 : Nat) : Int))) := Lib.hid (A1.1.congr fun r _ => upd_row (F := fun r => datP s m i r) (G := fun _ => 0) (by rw [hdat.out, if_pos has, hbs]) r)
            have B2 := Lib.hid (below_set HBi.out (Nat.le_refl gd) (j := t) (.int .u8 ((s[a].toNat : Nat) : Int)))
            clear A1 hbs hc
            go_wp2_with fail
            go_roundw
            case rel => exact ⟨t + 1, by go_num, by omega, O2, B2⟩
            case measure => simp [intOf]; omega
          · have t1 : decide ((a : Int) < (s.size : Int)) = false := by simp; omega
            have O2 : Hid (Own wi gd 5 gd k k (fun r => .int .u8 ((if r < t + 1 then datP s m i r else 0 : Nat) : Int))) := Lib.hid (HD.out.congr fun r _ => by
              by_cases hr : r = t
              · subst hr; rw [if_neg (by omega), if_pos (by omega), hdat.out, if_neg has]
              · by_cases hr2 : r < t
                · rw [if_pos hr2, if_pos (by omega)]
                · rw [if_neg hr2, if_neg (by omega)])
            go_wp2_with fail
            go_roundw
            case rel => exact ⟨t + 1, by go_num, by omega, O2, HBi⟩
            case measure => simp [intOf]; omega
        · obtain rfl : t = k := by omega
          have HDF : Hid (Reads wi (some ⟨gd, 0, none⟩) (rowF t (gfV (ysP s m i)))) := Lib.hid (by
            rw [← dat_row]
            exact (HD.out.congr fun r hr => by rw [if_pos hr]).reads)
          have HBo : Hid (Below wo.heap.size wo wi) := Lib.hid (by rw [HGD.out]; exact HBi.out)
          have HPi := Lib.hid (HP.out.below HBo.out)
          have HBw := Lib.hid (HB.out.trans (HBo.out.mono HB.out.size))
          have CP := Lib.hid (reed_Put (ysP s m i) t n (some ⟨gd, 0, none⟩) t wi hk hkn (by omega) HDF)
          clear HD HBi HDF HBo
          go_wp2_with fail
          (with_reducible refine CP.out.mono ?_)
          rintro e w3 ⟨gr, cr, rfl, hO3, hb3⟩
          have hlt3 := hO3.lt
          have HP3 : Hid (Parts w3 gp gp n (fun r => if r < 0 then i + 1 else i) (pcF s t) (fun q => q = gp ∨ q = gr)) := Lib.hid ((HPi.out.widen hb3 hlt3.1 hlt3.2).congr fun r _ => by rw [if_neg (by omega)])
          have HR3 := Lib.hid hO3.reads
          have HGR : Hid (gp ≠ gr) := Lib.hid (by have := HPi.out.lt; omega)
          have HB3 := Lib.hid (HBw.out.trans (hb3.mono HBw.out.size))
          clear hO3 hb3 hlt3 CP HPi
          go_wp2_with fail
          go_loopw [70] (fun vj wi => ∃ j : Nat, vj = .int .i64 j ∧ j ≤ n ∧ Hid (Parts wi gp gp n (fun r => if r < j then i + 1 else i) (pcF s t) (fun q => q = gp ∨ q = gr)) ∧ Hid (Reads wi (some ⟨gr, 0, none⟩) (rowF n (gfV fun j => lag gf (ysP s m i) t (gf j)))) ∧ Hid (Below w.heap.size w wi)) (fun vj _ => n - (intOf vj).toNat)
          case atStart => exact ⟨0, rfl, by omega, HP3, HR3, HB3⟩
          case round =>
            clear HP3 HR3 HB3 HBw HP HB
            obtain ⟨j, rfl, hj, HP, HR, HB⟩ := hrel
            obtain ⟨wj, rfl⟩ : ∃ wj, wj = wr := ⟨_, rfl⟩
            by_cases hjn : j < n
            · obtain ⟨b1, o1, ha, c1⟩ := HR.out j _ (rowF_get _ hjn)
              cases ha
              rw [Nat.zero_add] at c1
              unfold gfV at c1
              have hcell : (lag gf (ysP s m i) t (gf j)).val = pcF s t j i := by unfold pcF; rw [HM.out]
              rw [hcell] at c1
              obtain ⟨v, hv, hown, hnext⟩ := HP.out.get hjn
              simp only [Nat.lt_irrefl, if_false] at hown hnext
              obtain ⟨x, hx⟩ : ∃ x, pcF s t j i = x := ⟨_, rfl⟩
              rw [hx] at c1 hnext
              have HX := Lib.hid hx
              have HOW := Lib.hid hown
              have HNX := Lib.hid hnext
              clear hx hown hnext hcell
              have j0 : (0 : Int) ≤ (j : Int) := by omega
              have j1 : (j : Int) < (n : Int) := by omega
              go_wp2_with (first
                | (at_builtin; go_must (refine app_one2 rfl (.tmp 80) (.tmp 82) 73 rfl gp 5 _ 1 1 Try.underlying73 u8InfoP v i _ (by rfl) HOW.out [.int .u8 (x : Int)] (by rfl) rfl (by intro u hu; simp at hu; subst hu; rfl) (by unfold maxLen; omega) (by omega) (by have := HP.out.lt; omega) ?_); intro v1 w5 hown5 hgr5 hb5 hat5; obtain ⟨g5, c5, rfl⟩ := own_form hown5 (by simp); obtain ⟨⟨u5, hc5⟩, hf5, hP5, hX5⟩ := HNX.out _ w5 hown5 hgr5 hat5; have HG5 := Lib.hid hgr5; have HB5 := Lib.hid hb5; have HP5 := Lib.hid hP5; have HX5 := Lib.hid hX5; clear hown5 hgr5 hb5 hat5 hP5 hX5)
                | fail)
              have HB6 : Hid (Below w.heap.size w (w5.setCell ⟨gp, j, none⟩ (.slice (some ⟨g5, 0, none⟩) (i + 1) c5))) := Lib.hid (below_set (HB.out.trans (by rw [HGP.out]; exact HB5.out)) (by rw [HGP.out]; exact Nat.le_refl _) _)
              have HR6 : Hid (Reads (w5.setCell ⟨gp, j, none⟩ (.slice (some ⟨g5, 0, none⟩) (i + 1) c5)) (some ⟨gr, 0, none⟩) (rowF n (gfV fun j => lag gf (ysP s m i) t (gf j)))) := Lib.hid (((HR.out.alloc _).grown HG5.out (fun a ha => by cases ha; exact HX5.out gr (.inr rfl))).grown (setCell_grown w5 gp j _) (fun a ha => by
                cases ha
                intro he
                injection he with he
                exact HGR.out he.symm))
              have HP6 : Hid (Parts (w5.setCell ⟨gp, j, none⟩ (.slice (some ⟨g5, 0, none⟩) (i + 1) c5)) gp gp n (fun r => if r < j + 1 then i + 1 else i) (pcF s t) (fun q => q = gp ∨ q = gr)) := Lib.hid (HP5.out.congr fun r _ => by
                by_cases hr : r = j
                · subst hr; simp
                · rw [if_neg hr]
                  by_cases hr2 : r < j
                  · rw [if_pos hr2, if_pos (by omega)]
                  · rw [if_neg hr2, if_neg (by omega)])
              clear HG5 HB5 HP5 HX5
              go_roundw
              case rel => exact ⟨j + 1, by go_num, by omega, HP6, HR6, HB6⟩
              case measure => simp [intOf]; omega
            · obtain rfl : j = n := by omega
              have HP6 : Hid (Parts wj gp gp j (fun _ => i + 1) (pcF s t) (fun q => q = gp)) := Lib.hid ((HP.out.congr fun r hr => by rw [if_pos hr]).narrow (fun g hg => .inl hg) rfl)
              go_wp2_with fail
              go_roundw
              case rel => exact ⟨i + 1, by go_num, by omega, HP6, HB⟩
              case measure => simp [intOf]; omega
    · obtain rfl : i = m := by omega
      go_wp2_with (first
        | (at_make; refine make_own rfl _ _ 86 rfl w.heap.size 9 _ 16 Try.underlying86 strInfoP rfl _ _ _ _ n (by rfl) (by rfl) rfl rfl (by omega) (by unfold maxLen; omega) (HB.out.size) ?_; intro w2 hown hg2; have HO := Lib.hid hown; have HB2 := Lib.hid (below_of_grown hg2 (Nat.le_refl _) (fun q hq => by cases hq)); clear hown hg2)
        | fail)
      obtain ⟨go, hgo⟩ : ∃ go, wo.heap.size = go := ⟨_, rfl⟩
      have hol := HO.out.lt
      have HPo := Lib.hid (HP.out.widen HB2.out (Nat.le_refl _) (by omega))
      have HBo := Lib.hid (HB.out.trans (HB2.out.mono HB.out.size))
      have hgne : Hid (gp ≠ go) := Lib.hid (by rw [← hgo]; have := HP.out.lt; omega)
      rw [hgo] at HO HPo ⊢
      have HO0 : Hid (Own w2 w.heap.size 9 go n n (fun j => .string (if j < 0 then pieceS s.size i (pcF s k j) else ByteArray.empty))) := Lib.hid (HO.out.congr fun j _ => by rw [if_neg (by omega)])
      clear HO HB2 hol hgo HP HB
      go_wp2_with fail
      go_loopw [91] (fun vj wi => ∃ j : Nat, vj = .int .i64 j ∧ j ≤ n ∧ Hid (Parts wi gp gp n (fun _ => i) (pcF s k) (fun q => q = gp ∨ q = go)) ∧ Hid (Own wi w.heap.size 9 go n n (fun r => .string (if r < j then pieceS s.size i (pcF s k r) else ByteArray.empty))) ∧ Hid (Below w.heap.size w wi)) (fun vj _ => n - (intOf vj).toNat)
      case atStart => exact ⟨0, rfl, by omega, HPo, HO0, HBo⟩
      case round =>
        clear HPo HO0 HBo
        obtain ⟨j, rfl, hj, HP, HO, HB⟩ := hrel
        obtain ⟨wj, rfl⟩ : ∃ wj, wj = wr := ⟨_, rfl⟩
        by_cases hjn : j < n
        · obtain ⟨ao, cap, hc, hR, hnn⟩ := HP.out.row hjn
          have CS := Lib.hid (piece_sealed s.size i (pcF s k j) ao cap wj (by omega) (by omega) (fun r _ => pcF_lt _ _ _ _) hnn (Lib.hid hR))
          obtain ⟨S, hS⟩ : ∃ S, pieceS s.size i (pcF s k j) = S := ⟨_, rfl⟩
          rw [hS] at CS
          have HS := Lib.hid hS
          have j0 : (0 : Int) ≤ (j : Int) := by omega
          have j1 : (j : Int) < (n : Int) := by omega
          clear hR hnn hS
          go_wp2_with fail
          (with_reducible refine CS.out.mono ?_)
          rintro e w5 ⟨rfl, hb5⟩
          have HO5 := HO.out.below hb5
          have c5 := HO5.cell hjn
          have f5 := HO5.frozen j
          have A6 := HO5.store j (.string S)
          have HP6 := Lib.hid ((HP.out.below hb5).kept A6.2 (.inr rfl) hgne.out)
          have HO6 : Hid (Own (w5.setCell ⟨go, j, none⟩ (.string S)) w.heap.size 9 go n n (fun r => .string (if r < j + 1 then pieceS s.size i (pcF s k r) else ByteArray.empty))) := Lib.hid (A6.1.congr fun r _ => by
            by_cases hr : r = j
            · subst hr; rw [if_pos rfl, if_pos (by omega), HS.out]
            · rw [if_neg hr]
              by_cases hr2 : r < j
              · rw [if_pos hr2, if_pos (by omega)]
              · rw [if_neg hr2, if_neg (by omega)])
          have HB6 := Lib.hid (HO5.belowStore (HB.out.trans (hb5.mono HB.out.size)) (Nat.le_refl _) j (.string S))
          clear hb5 HO5 A6
          go_wp2_with fail
          go_roundw
          case rel => exact ⟨j + 1, by go_num, by omega, HP6, HO6, HB6⟩
          case measure => simp [intOf]; omega
        · obtain rfl : j = n := by omega
          go_wp2_with fail
          go_ret2
          exact ⟨go, rfl, HO.out.congr fun r hr => by rw [if_pos hr, HM.out], HB.out⟩
end Go.Proofs.Ytioecklnijhjgaa
