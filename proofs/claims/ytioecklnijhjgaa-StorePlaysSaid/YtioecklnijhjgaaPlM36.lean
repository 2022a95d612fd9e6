/- The reference's writeOf. (Printed by wip/tools/gen_ref4.py.) -/
import Derived.Test.YtioecklnijhjgaaRef4
import Derived.Test.YtioecklnijhjgaaRef4T
import Derived.Shelf.Strings.Repeat
import Derived.Test.YtioecklnijhjgaaRows
import Derived.Test.YtioecklnijhjgaaPiece3
import Derived.Test.YtioecklnijhjgaaPlM14
import Derived.Deep.RegionWith
import Derived.Test.YtioecklnijhjgaaPlM2
import Derived.Test.YtioecklnijhjgaaPlM9
import Derived.Deep.Matrix
set_option linter.unusedVariables false
set_option linter.unusedSimpArgs false
namespace Go.Proofs.Ytioecklnijhjgaa
open Go.RowKit

theorem ref_writeOf {n D k wr0 r : Nat} {All : List It} {st : St} (kind : Int) (hk12 : kind = 1 ∨ kind = 2) (key : Nat) (m : Int) (text : ByteArray) (hkey : key < 3) (ht : text.size ≤ 9223372036854775807) (hk1 : 1 ≤ k) (hkn : k ≤ n) (hn : n ≤ 10) (h : Shl n D All st) (ao : Option Addr) (ca : Nat) (w : World) (hR : Reads w ao (itCells All)) (hnone : ao = none → All.length = 0 ∧ ca = 0) :
    Calls Try.prog 23 #[.agg (shC n k wr0 r D st.wr (.slice ao All.length ca)), deedV kind (key : Int) m text] w (RefPost n k wr0 r ao (wrF n k wr0 st kind key m text) w) := by
  rcases hk12 with h12 | h12
  · exact ref_putOf kind h12 key m text hkey ht hk1 hkn hn h ao ca w hR hnone
  · exact ref_tornOf kind h12 key m text hkey ht hk1 hkn hn h ao ca w hR hnone
end Go.Proofs.Ytioecklnijhjgaa
namespace Go.Proofs.Ytioecklnijhjgaa
open Go.Shelf Go.RowKit

def repA_ren : Go.Shelf.Ren := ⟨fun | 105 => 80 | 212 => 90 | 99 => 91 | 165 => 82 | 166 => 83 | 170 => 92 | 169 => 84 | 263 => 95 | 264 => 96 | 206 => 97 | 240 => 93 | 241 => 94 | 276 => 98 | 277 => 99 | n => n, fun | 9 => 9 | 3 => 3 | 4 => 4 | 20 => 20 | 0 => 0 | 46 => 132 | 109 => 150 | 5 => 5 | 72 => 139 | 76 => 143 | 51 => 117 | 146 => 155 | 53 => 157 | 148 => 158 | 70 => 137 | 37 => 73 | 75 => 142 | 127 => 154 | 164 => 160 | 80 => 145 | n => n, fun | n => n⟩
theorem repA : Go.Proofs.Lays.n105 Try.prog repA_ren := {
  mixed := by kernel_rfl
  f99 := Try.func91.trans (congrArg some (by kernel_rfl))
  f105 := Try.func80.trans (congrArg some (by kernel_rfl))
  f165 := Try.func82.trans (congrArg some (by kernel_rfl))
  f166 := Try.func83.trans (congrArg some (by kernel_rfl))
  f169 := Try.func84.trans (congrArg some (by kernel_rfl))
  f170 := Try.func92.trans (congrArg some (by kernel_rfl))
  f206 := Try.func97.trans (congrArg some (by kernel_rfl))
  f212 := Try.func90.trans (congrArg some (by kernel_rfl))
  f240 := Try.func93.trans (congrArg some (by kernel_rfl))
  f241 := Try.func94.trans (congrArg some (by kernel_rfl))
  f263 := Try.func95.trans (congrArg some (by kernel_rfl))
  f264 := Try.func96.trans (congrArg some (by kernel_rfl))
  f276 := Try.func98.trans (congrArg some (by kernel_rfl))
  f277 := Try.func99.trans (congrArg some (by kernel_rfl))
  t0 := Try.underlying0
  a0 := Try.isAgg0
  z0 := Try.sizeOf0
  v0 := Try.zeroValue0
  t3 := Try.underlying3
  a3 := Try.isAgg3
  z3 := Try.sizeOf3
  v3 := Try.zeroValue3
  t4 := Try.underlying4
  a4 := Try.isAgg4
  z4 := Try.sizeOf4
  v4 := Try.zeroValue4
  t5 := Try.underlying5
  a5 := Try.isAgg5
  z5 := Try.sizeOf5
  v5 := Try.zeroValue5
  t9 := Try.underlying9
  a9 := Try.isAgg9
  z9 := Try.sizeOf9
  v9 := Try.zeroValue9
  t20 := Try.underlying20
  a20 := Try.isAgg20
  z20 := Try.sizeOf20
  v20 := Try.zeroValue20
  t37 := Try.underlying73
  a37 := Try.isAgg73
  z37 := Try.sizeOf73
  v37 := Try.zeroValue73
  t46 := Try.underlying132
  a46 := Try.isAgg132
  z46 := Try.sizeOf132
  v46 := Try.zeroValue132
  t51 := Try.underlying117
  a51 := Try.isAgg117
  z51 := Try.sizeOf117
  v51 := Try.zeroValue117
  t53 := Try.underlying157
  a53 := Try.isAgg157
  z53 := Try.sizeOf157
  v53 := Try.zeroValue157
  t70 := Try.underlying137
  a70 := Try.isAgg137
  z70 := Try.sizeOf137
  v70 := Try.zeroValue137
  t72 := Try.underlying139
  a72 := Try.isAgg139
  z72 := Try.sizeOf139
  v72 := Try.zeroValue139
  t75 := Try.underlying142
  a75 := Try.isAgg142
  z75 := Try.sizeOf142
  v75 := Try.zeroValue142
  t76 := Try.underlying143
  a76 := Try.isAgg143
  z76 := Try.sizeOf143
  v76 := Try.zeroValue143
  t109 := Try.underlying150
  a109 := Try.isAgg150
  z109 := Try.sizeOf150
  v109 := Try.zeroValue150
  t127 := Try.underlying154
  a127 := Try.isAgg154
  z127 := Try.sizeOf154
  v127 := Try.zeroValue154
  t146 := Try.underlying155
  a146 := Try.isAgg155
  z146 := Try.sizeOf155
  v146 := Try.zeroValue155
  t148 := Try.underlying158
  a148 := Try.isAgg158
  z148 := Try.sizeOf158
  v148 := Try.zeroValue158
  t164 := Try.underlying160
  a164 := Try.isAgg160
  z164 := Try.sizeOf160
  v164 := Try.zeroValue160 }
theorem repAX : Builder.Extra Try.prog repA_ren := {
  sizeBuilder := by kernel_rfl
  liesBuilder := by kernel_rfl
  t5 := Try.underlying5
  a5 := Try.isAgg5
  z5 := Try.sizeOf5
  v5 := Try.zeroValue5
  infoByte := by kernel_rfl
  cellsByte := by kernel_rfl
  sizeByte := by kernel_rfl
  neB5 := by decide }
theorem str_Repeat (s : ByteArray) (c : Nat) (w : World) (hc : c ≤ 9223372036854775807) (hlen : s.size * c ≤ 140737488355328) :
    Calls Try.prog 80 #[.string s, .int .i64 c] w fun e w' => e = .returned (.string ⟨(Lib.repeatL s.data.toList c).toArray⟩) ∧ Below w.heap.size w w' :=
  Any.strings_Repeat repA repAX s c w hc hlen
end Go.Proofs.Ytioecklnijhjgaa
namespace Go.Proofs.Ytioecklnijhjgaa
open Go.RowKit

theorem repeat_x (b : Nat) : (⟨(Lib.repeatL (ByteArray.mk #[120]).data.toList b).toArray⟩ : ByteArray).size = b := by
  have := Lib.repeatL_replicate 120 1 b
  show (Lib.repeatL _ b).toArray.size = b
  simp only [List.replicate_one] at this
  show (Lib.repeatL [120] b).toArray.size = b
  rw [this]
  simp
set_option maxRecDepth 100000 in
set_option maxHeartbeats 2000000 in
theorem ref_PieceErr (s : ByteArray) (k : Int) (w : World) (hs : s.size ≤ 9223372036854775807) :
    Calls Try.prog 67 #[.string s, .int .i64 k] w (ErrB (pieceE s k) w) := by
  have ws : IntKind.i64.wrap ((s.size : Int) - 4) = (s.size : Int) - 4 := IntWalk.i64_in _ (by omega)
  by_cases h1 : k < 1
  · have d1 : decide (k < 1) = true := decide_eq_true h1
    have HE : Hid (pieceE s k = 1) := Lib.hid (by unfold pieceE; rw [if_pos (by omega)])
    clear h1
    go_enter Try.func67, Try.ntmps67
    go_wp2_with fail
    go_ret
    exact ⟨by rw [HE.out]; rfl, Below.refl _ _⟩
  have d1 : decide (k < 1) = false := decide_eq_false h1
  by_cases h2 : 10 < k
  · have d2 : decide (10 < k) = true := decide_eq_true h2
    have HE : Hid (pieceE s k = 1) := Lib.hid (by unfold pieceE; rw [if_pos (by omega)])
    clear h1 h2
    go_enter Try.func67, Try.ntmps67
    go_wp2_with fail
    go_ret
    exact ⟨by rw [HE.out]; rfl, Below.refl _ _⟩
  have d2 : decide (10 < k) = false := decide_eq_false h2
  by_cases h3 : s.size < 5
  · have d3 : decide ((s.size : Int) - 4 < 1) = true := by simp; omega
    have HE : Hid (pieceE s k = 7) := Lib.hid (by unfold pieceE; rw [if_neg (by omega), if_pos h3])
    clear h1 h2
    go_enter Try.func67, Try.ntmps67
    go_wp2_with fail
    go_ret
    exact ⟨by rw [HE.out]; rfl, Below.refl _ _⟩
  obtain ⟨n, hn⟩ : ∃ n, s.size - 4 = n := ⟨_, rfl⟩
  have en : (s.size : Int) - 4 = (n : Int) := by omega
  have d3 : decide ((n : Int) < 1) = false := by simp; omega
  have hhs := headS_size s
  obtain ⟨A, hA⟩ : ∃ A, headS s = A := ⟨_, rfl⟩
  have hA2 : s.extract 0 n = A := by rw [← hA]; unfold headS; rw [hn]
  obtain ⟨T, hT⟩ : ∃ T, tailS s = T := ⟨_, rfl⟩
  have hT2 : s.extract n s.size = T := by rw [← hT]; unfold tailS; rw [hn]
  rw [hA] at hhs
  have CS := Lib.hid (fun W => ref_SumOf A W (by omega))
  obtain ⟨c, hc⟩ : ∃ c, crcN A = c := ⟨_, rfl⟩
  have hcb : c < 4294967296 := by rw [← hc]; exact crcN_lt A
  rw [hc] at CS
  have CF := Lib.hid (fun W => ref_Four c W hcb)
  have hF : Hid (fourS s = strOf (fourL c)) := Lib.hid (by unfold fourS; rw [hA, hc])
  obtain ⟨F, hF2⟩ : ∃ F, strOf (fourL c) = F := ⟨_, rfl⟩
  rw [hF2] at hF CF
  have HE : Hid (pieceE s k = if T ≠ F then 8 else if 60 < byteS s 0 ∨ s.size ≠ 5 + sizeN (byteS s 0) k.toNat then 3 else 0) := Lib.hid (by unfold pieceE; rw [if_neg (by omega), if_neg h3, hT, hF.out])
  have n0 : (0 : Int) ≤ (n : Int) := by omega
  have n1 : (n : Int) ≤ (s.size : Int) := by omega
  have HN := Lib.hid hn
  clear hA hT hc hF hF2 hn
  by_cases hTF : T = F
  · have t1 := str_eq hTF.symm
    have t1n : (F.toList != T.toList) = false := by rw [bne, t1]; rfl
    have HTF := Lib.hid hTF
    clear hTF
    have hs0 : 0 < s.size := by omega
    obtain ⟨b, hb⟩ : ∃ b, byteS s 0 = b := ⟨_, rfl⟩
    have hbb : b < 256 := by rw [← hb]; exact byteS_lt _ _
    have hb2 : s[0].toNat = b := by rw [← hb]; exact byteS_get s 0 hs0
    rw [hb] at HE
    by_cases h6 : 60 < b
    · have d6 : decide ((60 : Int) < (b : Int)) = true := by simp; omega
      have HE3 : Hid (pieceE s k = 3) := Lib.hid (by rw [HE.out, if_neg (by simp [HTF.out]), if_pos (.inl h6)])
      clear hb
      go_enter Try.func67, Try.ntmps67
      go_wp2_with fail
      go_region_with (first
        | (go_at_call 65; (with_reducible refine (CS.out _).mono ?_); rintro e w5 ⟨rfl, hb5⟩)
        | (go_at_call 64; (with_reducible refine (CF.out _).mono ?_); rintro e w6 ⟨rfl, hb6⟩)
        | fail)
      all_goals
        have HB := Lib.hid (((below_drew1 (Below.refl w.heap.size w)).trans hb5).trans (hb6.mono (by have := hb5.size; exact this)))
        clear hb5 hb6
        go_wp2_with fail
        go_ret
        exact ⟨by rw [HE3.out]; rfl, HB.out⟩
    · have d6 : decide ((60 : Int) < (b : Int)) = false := by simp; omega
      obtain ⟨K, rfl⟩ : ∃ K : Nat, k = K := ⟨k.toNat, by omega⟩
      have hz2 : Hid (sizeN b ((K : Int).toNat) = sizeN b K) := Lib.hid rfl
      have wb : IntKind.i64.wrap (b : Int) = (b : Int) := IntWalk.i64_in _ (by omega)
      have CRP := Lib.hid (fun W => str_Repeat ⟨#[120]⟩ b W (by omega) (by show 1 * b ≤ _; omega))
      have hrs := repeat_x b
      obtain ⟨R, hR⟩ : ∃ R, (⟨(Lib.repeatL (ByteArray.mk #[120]).data.toList b).toArray⟩ : ByteArray) = R := ⟨_, rfl⟩
      rw [hR] at CRP hrs
      have CSP := Lib.hid (fun W => ref_SplitOf R K K W (by omega) (by omega) (Nat.le_refl _) (by omega))
      unfold SplitOfPost at CSP
      rw [hrs] at CSP
      have hzb := sizeN_le (T := b) (k := K) (by omega)
      obtain ⟨z, hz⟩ : ∃ z, sizeN b K = z := ⟨_, rfl⟩
      rw [hz] at CSP hz2 hzb
      clear hb hz hR hrs
      have q0 : 0 < K := by omega
      by_cases h7 : n = 1 + z
      · have d7 : (((z + 5 : Nat) : Int) == (s.size : Int)) = true := by simp; have := HN.out; omega
        have d7n : (((z + 5 : Nat) : Int) != (s.size : Int)) = false := by rw [bne, d7]; rfl
        have HE3 : Hid (pieceE s K = 0) := Lib.hid (by rw [HE.out, if_neg (by simp [HTF.out]), if_neg (by rw [hz2.out]; have := HN.out; omega)])
        have H7 := Lib.hid h7
        clear h7
        go_enter Try.func67, Try.ntmps67
        go_wp2_with fail
        go_region_with (first
          | (go_at_call 65; (with_reducible refine (CS.out _).mono ?_); rintro e w5 ⟨rfl, hb5⟩)
          | (go_at_call 64; (with_reducible refine (CF.out _).mono ?_); rintro e w6 ⟨rfl, hb6⟩)
          | fail)
        all_goals
          have HB := Lib.hid (((below_drew1 (Below.refl w.heap.size w)).trans hb5).trans (hb6.mono (by have := hb5.size; exact this)))
          clear hb5 hb6
          go_wp2_with fail
          (with_reducible refine (CRP.out _).mono ?_)
          rintro e w7 ⟨rfl, hb7⟩
          have HB7 := Lib.hid (HB.out.trans (hb7.mono HB.out.size))
          clear hb7
          go_wp2_with fail
          (with_reducible refine (CSP.out _).mono ?_)
          rintro e w8 ⟨ao, cap, rfl, hR8, hb8⟩
          obtain ⟨bb, oo, rfl, c8⟩ := hR8 0 _ (rowF_get _ q0)
          obtain ⟨P, hP⟩ : ∃ P, pieceS b z (pcF R K 0) = P := ⟨_, rfl⟩
          have hPs : P.size = z + 5 := by rw [← hP]; exact pieceS_size _ _ _
          rw [hP, Nat.add_zero] at c8
          have HB8 := Lib.hid (HB7.out.trans (hb8.mono HB7.out.size))
          clear hb8 hR8 hP
          go_wp2_with fail
          go_ret
          exact ⟨by rw [HE3.out]; rfl, HB8.out⟩
      · have d7 : (((z + 5 : Nat) : Int) == (s.size : Int)) = false := by simp; have := HN.out; omega
        have d7n : (((z + 5 : Nat) : Int) != (s.size : Int)) = true := by rw [bne, d7]; rfl
        have HE3 : Hid (pieceE s K = 3) := Lib.hid (by rw [HE.out, if_neg (by simp [HTF.out]), if_pos (by rw [hz2.out]; have := HN.out; omega)])
        go_enter Try.func67, Try.ntmps67
        go_wp2_with fail
        go_region_with (first
          | (go_at_call 65; (with_reducible refine (CS.out _).mono ?_); rintro e w5 ⟨rfl, hb5⟩)
          | (go_at_call 64; (with_reducible refine (CF.out _).mono ?_); rintro e w6 ⟨rfl, hb6⟩)
          | fail)
        all_goals
          have HB := Lib.hid (((below_drew1 (Below.refl w.heap.size w)).trans hb5).trans (hb6.mono (by have := hb5.size; exact this)))
          clear hb5 hb6
          go_wp2_with fail
          (with_reducible refine (CRP.out _).mono ?_)
          rintro e w7 ⟨rfl, hb7⟩
          have HB7 := Lib.hid (HB.out.trans (hb7.mono HB.out.size))
          clear hb7
          go_wp2_with fail
          (with_reducible refine (CSP.out _).mono ?_)
          rintro e w8 ⟨ao, cap, rfl, hR8, hb8⟩
          obtain ⟨bb, oo, rfl, c8⟩ := hR8 0 _ (rowF_get _ q0)
          obtain ⟨P, hP⟩ : ∃ P, pieceS b z (pcF R K 0) = P := ⟨_, rfl⟩
          have hPs : P.size = z + 5 := by rw [← hP]; exact pieceS_size _ _ _
          rw [hP, Nat.add_zero] at c8
          have HB8 := Lib.hid (HB7.out.trans (hb8.mono HB7.out.size))
          clear hb8 hR8 hP
          go_wp2_with fail
          go_ret
          exact ⟨by rw [HE3.out]; rfl, HB8.out⟩
  · have t1 := str_ne (fun h : F = T => hTF h.symm)
    have t1n : (F.toList != T.toList) = true := by rw [bne, t1]; rfl
    have HE3 : Hid (pieceE s k = 8) := Lib.hid (by rw [HE.out, if_pos hTF])
    clear hTF
    go_enter Try.func67, Try.ntmps67
    go_wp2_with fail
    go_region_with (first
      | (go_at_call 65; (with_reducible refine (CS.out _).mono ?_); rintro e w5 ⟨rfl, hb5⟩)
      | (go_at_call 64; (with_reducible refine (CF.out _).mono ?_); rintro e w6 ⟨rfl, hb6⟩)
      | fail)
    all_goals
      have HB := Lib.hid (((below_drew1 (Below.refl w.heap.size w)).trans hb5).trans (hb6.mono (by have := hb5.size; exact this)))
      clear hb5 hb6
      go_wp2_with fail
      go_ret
      exact ⟨by rw [HE3.out]; rfl, HB.out⟩
end Go.Proofs.Ytioecklnijhjgaa
namespace Go.Proofs.Ytioecklnijhjgaa
open Go.RowKit

theorem own_formK {w : World} {base e size : Nat} {v : Value} {n K : Nat} {xs : List Value} (h : w.ownsRow base e size v n xs) (hx : xs ≠ []) (hK : n = K) : ∃ g cap, v = .slice (some ⟨g, 0, none⟩) K cap ∧ w.ownsRow base e size (.slice (some ⟨g, 0, none⟩) K cap) K xs := by
  subst hK
  obtain ⟨g, cap, rfl⟩ := own_form h hx
  exact ⟨g, cap, rfl, h⟩
theorem reads_cell0 {w : World} {b : Nat} {xs : List Value} (h : Reads w (some ⟨b, 0, none⟩) xs) {i : Nat} {u : Value} (hi : xs[i]? = some u) : w.cell? ⟨b, i, none⟩ = some u := by
  obtain ⟨b2, o2, ha, hc⟩ := h i u hi
  injection ha with ha
  injection ha with e1 e2
  subst e1 e2
  rw [Nat.zero_add] at hc
  exact hc
theorem own_dataK {w : World} {base e : Nat} {v : Value} {n : Nat} {xs : List Value} (h : w.ownsRow base e 1 v n xs) : ∃ ao cap, v = .slice ao n cap ∧ Reads w ao xs ∧ (ao = none → n = 0 ∧ cap = 0) ∧ n ≤ cap ∧ cap ≤ 9223372036854775807 := by
  obtain ⟨ao, cap, hv, hR, hn, _⟩ := own_reads h
  refine ⟨ao, cap, hv, hR, hn, ?_⟩
  rcases h.2 with ⟨h1, h2⟩ | ⟨g, cp, cur, hv3, h2⟩
  · rw [h1] at hv
    injection hv with e1 e2 e3
    omega
  · rw [hv3] at hv
    injection hv with e1 e2 e3
    have := h2.2.2.1
    have := h2.2.2.2.1
    unfold maxLen at *
    omega
theorem Own.caps {w : World} {base e g n cap : Nat} {f : Nat → Value} (h : Own w base e g n cap f) : n ≤ cap ∧ cap ≤ 9223372036854775807 := by
  obtain ⟨ao, cp, hv, _, _, h1, h2⟩ := own_dataK h
  cases hv
  exact ⟨h1, h2⟩
end Go.Proofs.Ytioecklnijhjgaa
namespace Go.Proofs.Ytioecklnijhjgaa
open Go.RowKit

/-- A row as its header has it: where, how much room, which bytes. -/
structure Hd where
  A : Option Addr
  C : Nat
  Z : List Nat
def Hd.v (h : Hd) : Value := .slice h.A h.Z.length h.C
def u8s (l : List Nat) : List Value := l.map fun x : Nat => Value.int .u8 (x : Int)
theorem u8s_get {l : List Nat} {i x : Nat} (h : l[i]? = some x) : (u8s l)[i]? = some (.int .u8 (x : Int)) := by unfold u8s; rw [List.getElem?_map, h]; rfl
theorem u8s_len (l : List Nat) : (u8s l).length = l.length := by simp [u8s]
theorem u8s_one (l : List Nat) : ∀ u ∈ u8s l, u.oneCell' = true := by
  intro u hu
  obtain ⟨_, _, rfl⟩ := List.mem_map.1 hu
  rfl
theorem u8s_append (l m : List Nat) : u8s (l ++ m) = u8s l ++ u8s m := by simp [u8s]
structure RowOk (w : World) (h : Hd) : Prop where
  none : h.A = none → h.Z.length = 0 ∧ h.C = 0
  cap : h.Z.length ≤ h.C
  max : h.C ≤ 9223372036854775807
  reads : Reads w h.A (u8s h.Z)
  byte : ∀ z ∈ h.Z, z < 256
theorem RowOk.below {w w' : World} {h : Hd} (k : RowOk w h) (hb : Below w.heap.size w w') : RowOk w' h := ⟨k.none, k.cap, k.max, k.reads.below hb, k.byte⟩
/-- A table that is read: its headers, and what they stand for. -/
structure TabIn (w : World) (ao : Option Addr) (n : Nat) (T : List Hd) : Prop where
  len : T.length = n
  max : n ≤ 9223372036854775807
  reads : Reads w ao (T.map Hd.v)
  rows : ∀ h ∈ T, RowOk w h
theorem TabIn.below {w w' : World} {ao : Option Addr} {n : Nat} {T : List Hd} (k : TabIn w ao n T) (hb : Below w.heap.size w w') : TabIn w' ao n T :=
  ⟨k.len, k.max, k.reads.below hb, fun h hh => (k.rows h hh).below hb⟩
theorem tabIn_nil (w : World) : TabIn w none 0 [] := ⟨rfl, by omega, Reads.nil _ _, by simp⟩
theorem TabIn.get {w : World} {ao : Option Addr} {n : Nat} {T : List Hd} (k : TabIn w ao n T) {i : Nat} (hi : i < n) : ∃ h b o, T[i]? = some h ∧ ao = some ⟨b, o, none⟩ ∧ w.cell? ⟨b, o + i, none⟩ = some (.slice h.A h.Z.length h.C) ∧ RowOk w h := by
  have hl : i < T.length := by rw [k.len]; exact hi
  obtain ⟨b, o, h1, h2⟩ := k.reads i (T[i]).v (by simp [List.getElem?_eq_getElem hl])
  exact ⟨T[i], b, o, List.getElem?_eq_getElem hl, h1, h2, k.rows _ (List.getElem_mem hl)⟩
theorem tabIn_of {w : World} {a : Addr} {len cap : Nat} {A : Nat → Option Addr} {L C : Nat → Nat} {Z : Nat → List Int} (hl : len ≤ cap) (hm : cap ≤ maxLen)
    (h : ∀ r, r < cap → w.cell? (a.add r) = some (.slice (A r) (L r) (C r)) ∧ L r ≤ C r ∧ C r ≤ maxLen ∧ (Z r).length = C r ∧ (∀ n ∈ Z r, (Lit.int .u8 n).wf = true) ∧ (A r = none → C r = 0) ∧
      ∀ a', A r = some a' → 0 ≤ a'.block ∧ ∀ c, c < C r → w.cell? (a'.add c) = some (.int .u8 ((Z r).getD c 0))) :
    ∃ T, TabIn w (some a) len T := by
  refine ⟨(List.range len).map fun r => ⟨A r, C r, ((Z r).take (L r)).map Int.toNat⟩, ?_, ?_, ?_, ?_⟩
  · simp
  · unfold maxLen at hm; omega
  · refine reads_of fun i u hu => ?_
    rw [List.getElem?_map, List.getElem?_map] at hu
    by_cases hi : i < len
    · rw [List.getElem?_range hi] at hu
      simp only [Option.map_some, Option.some.injEq] at hu
      subst hu
      obtain ⟨h1, h2, _, h4, _⟩ := h i (by omega)
      rw [h1]
      simp [Hd.v, Nat.min_eq_left, h4, h2]
    · rw [List.getElem?_eq_none (by simpa using hi)] at hu
      cases hu
  · intro hd hh
    obtain ⟨r, hr, rfl⟩ := List.mem_map.1 hh
    have hr := List.mem_range.1 hr
    obtain ⟨h1, h2, h3, h4, h5, h6, h7⟩ := h r (by omega)
    have hlen : ((List.take (L r) (Z r)).map Int.toNat).length = L r := by rw [List.length_map, List.length_take]; omega
    refine ⟨fun hn => ?_, ?_, ?_, ?_, ?_⟩
    · simp only at hn ⊢
      rw [hlen]
      have := h6 hn
      omega
    · simp only; rw [hlen]; exact h2
    · unfold maxLen at h3; simp only; omega
    · have hlt : ∀ (j : Nat) (u : Value), (u8s ((List.take (L r) (Z r)).map Int.toNat))[j]? = some u → j < L r := by
        intro j u hu
        have := (List.getElem?_eq_some_iff.1 hu).1
        rw [u8s_len, hlen] at this
        exact this
      show Reads w (A r) (u8s ((List.take (L r) (Z r)).map Int.toNat))
      cases hA : A r with
      | none => intro j u hu; have := hlt j u hu; have := h6 hA; omega
      | some a' =>
        refine reads_of fun j u hu => ?_
        have hj := hlt j u hu
        rw [(h7 a' hA).2 j (by omega)]
        have hz : (Z r)[j]? = some ((Z r).getD j 0) := by
          rw [List.getD_eq_getElem?_getD]
          rw [List.getElem?_eq_getElem (by omega)]
          rfl
        have hw := u8_wf (h5 _ (List.mem_of_getElem? hz))
        unfold u8s at hu
        simp only [List.getElem?_map, List.getElem?_take, if_pos hj, hz, Option.map_some, Option.some.injEq] at hu
        rw [← hu, Int.toNat_of_nonneg hw.1]
    · intro z hz
      simp only at hz
      obtain ⟨x, hx, rfl⟩ := List.mem_map.1 hz
      have hw := u8_wf (h5 x (List.mem_of_mem_take hx))
      omega
/-- Where the first of some values stands that a test lets by; -1 if there is none. -/
def idxA {α : Type} (p : α → Bool) (zs : List α) : Int := match zs.findIdx? p with | some i => (i : Int) | none => -1
theorem idxA_none {α : Type} {p : α → Bool} {zs : List α} (h : ∀ x ∈ zs, p x = false) : idxA p zs = -1 := by
  unfold idxA
  rw [List.findIdx?_eq_none_iff.2 (by simpa using h)]
theorem idxA_some {α : Type} {p : α → Bool} {zs : List α} {k : Nat} {x : α} (hk : zs[k]? = some x) (hx : p x = true) (h : ∀ j y, j < k → zs[j]? = some y → p y = false) : idxA p zs = k := by
  have : zs.findIdx? p = some k := by
    rw [List.findIdx?_eq_some_iff_getElem]
    obtain ⟨hl, he⟩ := List.getElem?_eq_some_iff.1 hk
    refine ⟨hl, by rw [he]; exact hx, fun j hj => ?_⟩
    have := h j _ hj (List.getElem?_eq_getElem (by omega))
    simp [this]
  unfold idxA
  rw [this]
theorem idxA_nonneg {α : Type} (p : α → Bool) (zs : List α) : decide (0 ≤ idxA p zs) = zs.any p := by
  unfold idxA
  cases h : zs.findIdx? p with
  | none =>
    rw [List.findIdx?_eq_none_iff] at h
    have : zs.any p = false := by simp only [List.any_eq_false]; intro x hx; simp [h x hx]
    rw [this]
    rfl
  | some i =>
    rw [List.findIdx?_eq_some_iff_getElem] at h
    obtain ⟨hl, h1, _⟩ := h
    have : zs.any p = true := List.any_eq_true.2 ⟨_, List.getElem_mem hl, h1⟩
    rw [this]
    simp
end Go.Proofs.Ytioecklnijhjgaa
