/- package piece: right, size, sealed; the reference's Four. -/
import Derived.Test.YtioecklnijhjgaaSum1
import Derived.Test.YtioecklnijhjgaaPlM1
import Derived.Laws.Concat
import Derived.Test.YtioecklnijhjgaaPlM3
set_option linter.unusedVariables false
set_option linter.unusedSimpArgs false
namespace Go.Proofs.Ytioecklnijhjgaa
open Go.RowKit

/-- The string of bytes. -/
def strOf (l : List Nat) : ByteArray := ⟨(l.map UInt8.ofNat).toArray⟩
theorem strOf_size (l : List Nat) : (strOf l).size = l.length := by simp [strOf, ByteArray.size]
theorem strOf_bytes (m : Nat) (f : Nat → Nat) : bytesOf m f = strOf ((List.range m).map f) := by
  unfold bytesOf strOf
  rw [List.map_map]; rfl
theorem strOf_get {l : List Nat} {k : Nat} (h : k < l.length) (hl : ∀ c ∈ l, c < 256) : byteS (strOf l) k = l.getD k 0 := by
  unfold byteS strOf
  rw [List.getD_eq_getElem?_getD, List.getD_eq_getElem?_getD]
  simp [h]
  have := hl _ (List.getElem_mem h)
  omega
/-- A list as a function. -/
theorem list_range (l : List Nat) : (List.range l.length).map (fun k => l.getD k 0) = l := by
  apply List.ext_getElem?
  intro j
  by_cases h : j < l.length
  · simp [h]
  · simp [h]
theorem strOf_fun (l : List Nat) : bytesOf l.length (fun k => l.getD k 0) = strOf l := by rw [strOf_bytes, list_range]
theorem rowB_list (l : List Nat) : rowB l.length (fun k => l.getD k 0) = l.map (fun c => Value.int .u8 (c : Nat)) := by
  unfold rowB rowF
  have h := list_range l
  conv => rhs; rw [← h]
  rw [List.map_map]; rfl
theorem conv_list (l : List Nat) (ao : Option Addr) (cap : Nat) (W : World) (hl : ∀ c ∈ l, c < 256) (hn : ao = none → l.length = 0) (hR : Reads W ao (l.map (fun c => Value.int .u8 (c : Nat)))) :
    (convert 73 9 (.slice ao l.length cap)).run Try.prog W = .ok (.string (strOf l)) W := by
  rw [← rowB_list] at hR
  have := conv_back l.length (fun k => l.getD k 0) ao cap W (fun k hk => by
    show l.getD k 0 < 256
    rw [List.getD_eq_getElem?_getD, List.getElem?_eq_getElem hk]
    exact hl _ (List.getElem_mem hk)) hn hR
  rwa [strOf_fun] at this
theorem wrap_u8' (a : Nat) (h : a < 256) : IntKind.u8.wrap (a : Int) = (a : Int) := by
  simp only [IntKind.wrap, IntKind.signed, IntKind.bits]
  simp
  omega
theorem own_reads' {w : World} {base e size : Nat} {ao : Option Addr} {n m cap : Nat} {xs : List Value} (h : w.ownsRow base e size (.slice ao n cap) m xs) : Reads w ao xs := by
  obtain ⟨a, c, hv, hR, _, _⟩ := own_reads h
  cases hv
  exact hR
def fourL (c : Nat) : List Nat := [c % 256, c / 256 % 256, c / 65536 % 256, c / 16777216 % 256]
theorem fourL_lt (c : Nat) : ∀ x ∈ fourL c, x < 256 := by
  intro x hx
  simp [fourL] at hx
  omega
def bodyL (T m : Nat) (f : Nat → Nat) : List Nat := T :: (List.range m).map f
theorem bodyL_len (T m : Nat) (f : Nat → Nat) : (bodyL T m f).length = m + 1 := by simp [bodyL]
/-- A piece: the length, the part, the checksum. -/
def pieceS (T m : Nat) (f : Nat → Nat) : ByteArray := strOf (bodyL T m f) ++ strOf (fourL (crcN (strOf (bodyL T m f))))
theorem pieceS_size (T m : Nat) (f : Nat → Nat) : (pieceS T m f).size = m + 5 := by
  unfold pieceS
  rw [ByteArray.size_append, strOf_size, strOf_size, bodyL_len]
  rfl
/-- The length of a part. -/
def sizeN (T k : Nat) : Nat := (T + k - 1) / k
theorem sizeN_le {T k : Nat} (hk : 1 ≤ k) : sizeN T k ≤ T := by
  unfold sizeN
  rcases Nat.eq_zero_or_pos T with rfl | hT
  · rw [Nat.zero_add, Nat.div_eq_of_lt (by omega)]
    exact Nat.le_refl _
  · apply Nat.le_of_lt_succ
    rw [Nat.div_lt_iff_lt_mul (by omega)]
    have : T * 1 ≤ T * k := Nat.mul_le_mul_left T hk
    rw [Nat.succ_mul]
    have h2 : k ≤ T * k := Nat.le_mul_of_pos_left k hT
    omega
theorem size_iff {T k z : Nat} (hk : 1 ≤ k) : z < sizeN T k ↔ z * k < T := by
  unfold sizeN
  rw [show z < (T + k - 1) / k ↔ z + 1 ≤ (T + k - 1) / k from Iff.rfl, Nat.le_div_iff_mul_le (by omega), Nat.succ_mul]
  omega
theorem size_mul {T k : Nat} (hk : 1 ≤ k) : T ≤ sizeN T k * k := by
  rcases Nat.lt_or_ge (sizeN T k * k) T with h | h
  · exact absurd ((size_iff hk).2 h) (Nat.lt_irrefl _)
  · exact h
theorem piece_size (T k : Nat) (w : World) (hT : T ≤ 1000000) (hk : 1 ≤ k) (hk2 : k ≤ 1000000) :
    Calls Try.prog 60 #[.int .i64 T, .int .i64 k] w fun e w' => e = .returned (.int .i64 (sizeN T k : Nat)) ∧ w = w' := by
  have a0 : ¬ (k = 0) := by omega
  obtain ⟨s, hs⟩ : ∃ s, sizeN T k = s := ⟨_, rfl⟩
  have hsT : s ≤ T := by rw [← hs]; exact sizeN_le hk
  have t1 : ((T : Int) + k - 1).tdiv (k : Int) = (s : Int) := by
    rw [show (T : Int) + k - 1 = ((T + k - 1 : Nat) : Int) by omega, Int.tdiv_eq_ediv_of_nonneg (by omega), ← hs]; rfl
  have t2 : ((T : Int) + k - 1) / (k : Int) = (s : Int) := by
    rw [show (T : Int) + k - 1 = ((T + k - 1 : Nat) : Int) by omega, ← hs]; rfl
  have u1 : IntKind.i64.wrap (s : Int) = (s : Int) := IntWalk.i64_in _ (by omega)
  rw [hs]
  clear hs
  go_enter Try.func60, Try.ntmps60
  go_wp2_with fail
  go_ret
  exact ⟨rfl, rfl⟩
def rightB (k n : Int) : Bool := decide (1 ≤ k) && decide (k ≤ n) && decide (n ≤ 10)
theorem piece_right (k n : Int) (w : World) :
    Calls Try.prog 59 #[.int .i64 k, .int .i64 n] w fun e w' => e = .returned (.bool (rightB k n)) ∧ w = w' := by
  unfold rightB
  cases h1 : decide (1 ≤ k) <;> cases h2 : decide (k ≤ n) <;> cases h3 : decide (n ≤ 10)
  all_goals
    go_enter Try.func59, Try.ntmps59
    go_wp2_with fail
    go_ret
    exact ⟨rfl, rfl⟩
set_option maxRecDepth 20000 in
set_option maxHeartbeats 1000000 in
theorem ref_Four (c : Nat) (w : World) (hc : c < 4294967296) :
    Calls Try.prog 64 #[.int .u32 c] w fun e w' => e = .returned (.string (strOf (fourL c))) ∧ Below w.heap.size w w' := by
  have kc := fun W h => conv_list (fourL c) (some ⟨w.heap.size, 0, none⟩) 4 W (fourL_lt c) (fun h => by cases h) h
  obtain ⟨a, ha⟩ : ∃ a, c % 256 = a := ⟨_, rfl⟩
  obtain ⟨b, hb⟩ : ∃ a, c / 256 % 256 = a := ⟨_, rfl⟩
  obtain ⟨d, hd⟩ : ∃ a, c / 65536 % 256 = a := ⟨_, rfl⟩
  obtain ⟨f, hf⟩ : ∃ a, c / 16777216 = a := ⟨_, rfl⟩
  have hfe : c / 16777216 % 256 = f := by omega
  have e1 : (c : Int) % 256 = (a : Int) := by omega
  have e2 : (c : Int) / 256 % 256 = (b : Int) := by omega
  have e3 : (c : Int) / 65536 % 256 = (d : Int) := by omega
  have e4 : (c : Int) / 16777216 = (f : Int) := by omega
  have w1 := wrap_u8' a (by omega)
  have w2 := wrap_u8' b (by omega)
  have w3 := wrap_u8' d (by omega)
  have w4 := wrap_u8' f (by omega)
  have hF : fourL c = [a, b, d, f] := by unfold fourL; rw [ha, hb, hd, hfe]
  rw [hF] at kc
  have k1 : (convert 73 9 (.slice (some ⟨w.heap.size, 0, none⟩) 4 4)).run Try.prog (w.alloc (.cells #[.int .u8 a, .int .u8 b, .int .u8 d, .int .u8 f] 5)) = .ok (.string (strOf [a, b, d, f])) (w.alloc (.cells #[.int .u8 a, .int .u8 b, .int .u8 d, .int .u8 f] 5)) := kc _ (reads_new w _ _)
  rw [hF]
  clear ha hb hd hf hfe hF kc
  have hbel := Lib.hid ((Below.refl w.heap.size w).alloc (Nat.le_refl _) (.cells #[.int .u8 a, .int .u8 b, .int .u8 d, .int .u8 f] 5))
  go_enter Try.func64, Try.ntmps64
  go_wp2_with fail
  go_ret
  exact ⟨rfl, hbel.out⟩
set_option maxRecDepth 20000 in
set_option maxHeartbeats 2000000 in
theorem piece_sealed (T m : Nat) (f : Nat → Nat) (ao : Option Addr) (cap : Nat) (w : World) (hT : T < 256) (hm : m ≤ 1000000) (hf : ∀ j, j < m → f j < 256) (hn : ao = none → m = 0 ∧ cap = 0) (hR : Hid (Reads w ao (rowB m f))) :
    Calls Try.prog 61 #[.int .i64 T, .slice ao m cap] w fun e w' => e = .returned (.string (pieceS T m f)) ∧ Below w.heap.size w w' := by
  have hl1 := bodyL_len T m f
  have hlt : ∀ c ∈ bodyL T m f, c < 256 := by
    intro c hc
    simp only [bodyL, List.mem_cons, List.mem_map, List.mem_range] at hc
    rcases hc with rfl | ⟨j, hj, rfl⟩
    · exact hT
    · exact hf j hj
  have w0 := wrap_u8' T hT
  obtain ⟨B, hB⟩ : ∃ B, strOf (bodyL T m f) = B := ⟨_, rfl⟩
  have hBs : B.size = m + 1 := by rw [← hB, strOf_size, hl1]
  obtain ⟨c, hc⟩ : ∃ c, crcN B = c := ⟨_, rfl⟩
  have hcb : c < 4294967296 := by rw [← hc]; exact crcN_lt B
  have CS := Lib.hid (fun W => piece_Sum B W (by omega))
  rw [hc] at CS
  have hres : Hid (pieceS T m f = B ++ strOf (fourL c)) := Lib.hid (by unfold pieceS; rw [hB, hc])
  obtain ⟨a0, ha0⟩ : ∃ a, c % 256 = a := ⟨_, rfl⟩
  obtain ⟨a1, ha1⟩ : ∃ a, c / 256 % 256 = a := ⟨_, rfl⟩
  obtain ⟨a2, ha2⟩ : ∃ a, c / 65536 % 256 = a := ⟨_, rfl⟩
  obtain ⟨a3, ha3⟩ : ∃ a, c / 16777216 % 256 = a := ⟨_, rfl⟩
  have w1 : IntKind.u8.wrap (c : Int) = (a0 : Int) := by rw [IntKind.wrap_u8]; omega
  have w2 : IntKind.u8.wrap ((c : Int) / 256) = (a1 : Int) := by rw [IntKind.wrap_u8]; omega
  have w3 : IntKind.u8.wrap ((c : Int) / 65536) = (a2 : Int) := by rw [IntKind.wrap_u8]; omega
  have w4 : IntKind.u8.wrap ((c : Int) / 16777216) = (a3 : Int) := by rw [IntKind.wrap_u8]; omega
  have hF : fourL c = [a0, a1, a2, a3] := by unfold fourL; rw [ha0, ha1, ha2, ha3]
  have kc := fun W (g : Nat) h => conv_list (fourL c) (some ⟨g, 0, none⟩) 4 W (fourL_lt c) (fun h => by cases h) h
  rw [hF] at kc
  have HKC : Hid (∀ W : World, (convert 73 9 (.slice (some ⟨W.heap.size, 0, none⟩) 4 4)).run Try.prog (W.alloc (.cells #[.int .u8 a0, .int .u8 a1, .int .u8 a2, .int .u8 a3] 5)) = .ok (.string (strOf [a0, a1, a2, a3])) (W.alloc (.cells #[.int .u8 a0, .int .u8 a1, .int .u8 a2, .int .u8 a3] 5))) := Lib.hid (fun W => kc _ _ (reads_new W _ _))
  have hfs : (strOf [a0, a1, a2, a3]).size = 4 := by rw [strOf_size]; rfl
  rw [hF] at hres
  obtain ⟨FS, hFS⟩ : ∃ S, strOf [a0, a1, a2, a3] = S := ⟨_, rfl⟩
  rw [hFS] at hres HKC hfs
  have hsum : B.size + FS.size ≤ 9223372036854775807 := by omega
  have HADD := run_string_add_sum (P := Try.prog) (w := w) B FS hsum
  have hown : Hid ((w.alloc (.cells #[.int .u8 (T : Nat)] 5)).ownsRow w.heap.size 5 1 (.slice (some ⟨w.heap.size, 0, none⟩) 1 1) 1 [.int .u8 (T : Nat)]) := Lib.hid (own_lit w w.heap.size 5 [.int .u8 (T : Nat)] (Nat.le_refl _) (by unfold maxLen; simp))
  have hR2 : Hid (Reads (w.alloc (.cells #[.int .u8 (T : Nat)] 5)) ao (rowB m f)) := Lib.hid (hR.out.alloc _)
  have hbel := Lib.hid ((Below.refl w.heap.size w).alloc (Nat.le_refl _) (.cells #[.int .u8 (T : Nat)] 5))
  have HB := Lib.hid hB
  have HLT := Lib.hid hlt
  have hrow : Hid ([.int .u8 ((T : Nat) : Int)] ++ rowB m f = (bodyL T m f).map (fun c => Value.int .u8 (c : Nat))) := Lib.hid (by unfold rowB rowF bodyL; simp [List.map_map, Function.comp_def])
  have HL1 := Lib.hid hl1
  clear ha0 ha1 ha2 ha3 hF kc hFS hB hc hlt hl1 HADD
  go_enter Try.func61, Try.ntmps61
  go_wp2_with (first
    | (at_builtin; go_must (refine app_all rfl (.tmp 9) (.tmp 10) _ rfl w.heap.size 5 _ 1 1 Try.underlying73 u8InfoP _ 1 _ (by rfl) hown.out ao m cap _ (by rfl) hn (by rw [rowB_length]; omega) hR2.out (by intro u hu; unfold rowB rowF at hu; obtain ⟨j, _, rfl⟩ := List.mem_map.1 hu; rfl) (by unfold maxLen; omega) (by omega) hbel.out.size ?_); intro v2 w2 hown2 hgr2 hb2; rw [hrow.out] at hown2; obtain ⟨g2, c2, rfl⟩ := own_form hown2 (by simp [bodyL]); have k2 := conv_list (bodyL T m f) (some ⟨g2, 0, none⟩) c2 w2 HLT.out (fun h => by cases h) (own_reads' hown2); rw [HL1.out, HB.out, Nat.add_comm] at k2; have HB2 := Lib.hid (hbel.out.trans hb2); clear hown2 hgr2 hb2)
    | (go_at_call 77; (with_reducible refine (CS.out _).mono ?_); rintro e w5 ⟨rfl, rfl⟩; have k5 := HKC.out w2)
    | fail)
  go_ret
  exact ⟨by rw [hres.out]; rfl, HB2.out.trans ((Below.refl _ _).alloc HB2.out.size _)⟩
end Go.Proofs.Ytioecklnijhjgaa
namespace Go.Proofs.Ytioecklnijhjgaa
open Go.RowKit

/-- n rows in block gp; row j has the first len j bytes of F j; no row lies in a block of X. -/
def Parts (w : World) (base gp n : Nat) (len : Nat → Nat) (F : Nat → Nat → Nat) (X : Nat → Prop) : Prop :=
  X gp ∧ (∀ g, X g → g < w.heap.size) ∧ ∃ V : Nat → Value, Own w base 73 gp n n V ∧ (∀ j, j < n → w.ownsRow base 5 1 (V j) (len j) (rowB (len j) (F j)) ∧ ∀ g, (V j).ownBlock = some g → ¬ X g) ∧ ∀ i j, i < n → j < n → i ≠ j → Apart (V i) (V j)
theorem Parts.below {w w' : World} {base gp n : Nat} {len : Nat → Nat} {F : Nat → Nat → Nat} {X : Nat → Prop} (h : Parts w base gp n len F X) (hb : Below w.heap.size w w') : Parts w' base gp n len F X := by
  obtain ⟨h1, h2, V, h3, h4, h5⟩ := h
  exact ⟨h1, fun g hg => Nat.lt_of_lt_of_le (h2 g hg) hb.size, V, h3.below hb, fun j hj => ⟨own_below (h4 j hj).1 hb, (h4 j hj).2⟩, h5⟩
theorem Parts.lt {w : World} {base gp n : Nat} {len : Nat → Nat} {F : Nat → Nat → Nat} {X : Nat → Prop} (h : Parts w base gp n len F X) : base ≤ gp ∧ gp < w.heap.size := by
  obtain ⟨h1, h2, V, h3, h4, h5⟩ := h
  exact h3.lt
theorem Parts.congr {w : World} {base gp n : Nat} {len len' : Nat → Nat} {F : Nat → Nat → Nat} {X : Nat → Prop} (h : Parts w base gp n len F X) (hl : ∀ j, j < n → len j = len' j) : Parts w base gp n len' F X := by
  obtain ⟨h1, h2, V, h3, h4, h5⟩ := h
  exact ⟨h1, h2, V, h3, fun j hj => by rw [← hl j hj]; exact h4 j hj, h5⟩
/-- A block that is later than all that lay there joins the set. -/
theorem Parts.widen {w w' : World} {base gp n : Nat} {len : Nat → Nat} {F : Nat → Nat → Nat} {X : Nat → Prop} (h : Parts w base gp n len F X) (hb : Below w.heap.size w w') {g : Nat} (h1 : w.heap.size ≤ g) (h2 : g < w'.heap.size) : Parts w' base gp n len F (fun k => X k ∨ k = g) := by
  obtain ⟨k1, k2, V, k3, k4, k5⟩ := h
  refine ⟨.inl k1, fun q hq => ?_, V, k3.below hb, fun j hj => ⟨own_below (k4 j hj).1 hb, fun q hq => ?_⟩, k5⟩
  · rcases hq with hq | rfl
    · exact Nat.lt_of_lt_of_le (k2 q hq) hb.size
    · exact h2
  · rintro (hx | rfl)
    · exact (k4 j hj).2 q hq hx
    · have := ((k4 j hj).1.lt q hq).2
      omega
theorem Parts.narrow {w : World} {base gp n : Nat} {len : Nat → Nat} {F : Nat → Nat → Nat} {X X' : Nat → Prop} (h : Parts w base gp n len F X) (hx : ∀ g, X' g → X g) (hg : X' gp) : Parts w base gp n len F X' := by
  obtain ⟨k1, k2, V, k3, k4, k5⟩ := h
  exact ⟨hg, fun g h => k2 g (hx g h), V, k3, fun j hj => ⟨(k4 j hj).1, fun g hq h => (k4 j hj).2 g hq (hx g h)⟩, k5⟩
/-- A store into a block of the set, another than the rows' own. -/
theorem Parts.kept {w w' : World} {base gp n : Nat} {len : Nat → Nat} {F : Nat → Nat → Nat} {X : Nat → Prop} (h : Parts w base gp n len F X) {g : Nat} (hg : w.grownBy w' (some g)) (hX : X g) (hne : gp ≠ g) : Parts w' base gp n len F X := by
  obtain ⟨k1, k2, V, k3, k4, k5⟩ := h
  refine ⟨k1, fun q hq => Nat.lt_of_lt_of_le (k2 q hq) hg.size, V, k3.kept hg hne, fun j hj => ⟨(k4 j hj).1.kept hg ?_, (k4 j hj).2⟩, k5⟩
  cases hv : (V j).ownBlock with
  | none => exact .inl rfl
  | some q => right; intro he; injection he with he; subst he; exact (k4 j hj).2 q hv hX
/-- Row j: its slice, and what comes of an append. -/
theorem Parts.get {w : World} {base gp n : Nat} {len : Nat → Nat} {F : Nat → Nat → Nat} {X : Nat → Prop} (h : Parts w base gp n len F X) {j : Nat} (hj : j < n) :
    ∃ v, w.cell? ⟨gp, j, none⟩ = some v ∧ w.ownsRow base 5 1 v (len j) (rowB (len j) (F j)) ∧
      ∀ v1 w1, w1.ownsRow base 5 1 v1 (len j + 1) (rowB (len j) (F j) ++ [.int .u8 (F j (len j) : Nat)]) → (w.alloc (.cells #[.int .u8 (F j (len j) : Nat)] 5)).grownBy w1 v.ownBlock → (v1.ownBlock = v.ownBlock ∨ v1.ownBlock = some (w.heap.size + 1)) →
        (∃ u, w1.cell? ⟨gp, j, none⟩ = some u) ∧ w1.frozen? ⟨gp, j, none⟩ = false ∧ Parts (w1.setCell ⟨gp, j, none⟩ v1) base gp n (fun t => if t = j then len t + 1 else len t) F X ∧
        (∀ g, X g → some g ≠ v.ownBlock) := by
  obtain ⟨k1, k2, V, k3, k4, k5⟩ := h
  refine ⟨V j, k3.cell hj, (k4 j hj).1, fun v1 w1 hown hgr hat => ?_⟩
  have hXb : ∀ g, X g → some g ≠ (V j).ownBlock := fun g hg he => (k4 j hj).2 g he.symm hg
  have hb1 : Below w.heap.size w (w.alloc (.cells #[.int .u8 (F j (len j) : Nat)] 5)) := (Below.refl _ _).alloc (Nat.le_refl _) _
  have h3 : Own w1 base 73 gp n n V := World.ownsRow.kept (k3.below hb1) hgr (.inr (hXb gp k1))
  have s3 := h3.store j v1
  refine ⟨⟨_, h3.cell hj⟩, h3.frozen j, ⟨k1, fun g hg => ?_, fun t => if t = j then v1 else V t, s3.1, fun t ht => ?_, fun s t hs ht hst => ?_⟩, hXb⟩
  · have := k2 g hg
    have h1 := hgr.size
    have h2 := s3.2.size
    rw [World.size_alloc] at h1
    omega
  · by_cases htj : t = j
    · subst htj
      simp only [if_true]
      refine ⟨?_, fun g hg hx => ?_⟩
      · rw [rowB_succ]
        refine hown.kept s3.2 ?_
        cases hv : v1.ownBlock with
        | none => exact .inl rfl
        | some q =>
          right; intro he; injection he with he; subst he
          rcases hat with hat | hat
          · rw [hv] at hat; exact hXb q k1 hat
          · rw [hv] at hat; injection hat with hat
            have := k2 q k1
            omega
      · rcases hat with hat | hat
        · rw [hg] at hat; exact hXb g hx hat
        · rw [hg] at hat; injection hat with hat
          have := k2 g hx
          omega
    · simp only [if_neg htj]
      have hk := kept_apart (k4 t ht).1 hgr (k5 j t hj ht (fun e => htj e.symm))
      refine ⟨hk.kept s3.2 ?_, (k4 t ht).2⟩
      cases hv : (V t).ownBlock with
      | none => exact .inl rfl
      | some q => right; intro he; injection he with he; subst he; exact (k4 t ht).2 q hv k1
  · have grow : ∀ t, t < n → t ≠ j → Apart v1 (V t) := fun t ht htj => (k5 j t hj ht (fun e => htj e.symm)).grow hat (fun g hg => by have := ((k4 t ht).1.lt g hg).2; omega)
    by_cases hsj : s = j
    · subst hsj
      simp only [if_true, if_neg (fun e => hst e.symm : ¬ t = s)]
      exact grow t ht (fun e => hst e.symm)
    · by_cases htj : t = j
      · subst htj
        simp only [if_true, if_neg hsj]
        exact (grow s hs hsj).symm
      · simp only [if_neg hsj, if_neg htj]
        exact k5 s t hs ht hst
/-- Row j, to be read. -/
theorem Parts.row {w : World} {base gp n : Nat} {len : Nat → Nat} {F : Nat → Nat → Nat} {X : Nat → Prop} (h : Parts w base gp n len F X) {j : Nat} (hj : j < n) :
    ∃ ao cap, w.cell? ⟨gp, j, none⟩ = some (.slice ao (len j) cap) ∧ Reads w ao (rowB (len j) (F j)) ∧ (ao = none → len j = 0 ∧ cap = 0) := by
  obtain ⟨k1, k2, V, k3, k4, k5⟩ := h
  obtain ⟨ao, cap, hv, hR, hn, _⟩ := own_reads (k4 j hj).1
  exact ⟨ao, cap, by rw [← hv]; exact k3.cell hj, hR, hn⟩
/-- All rows empty: 'make([][]byte, n)'. -/
theorem Parts.start {w : World} {base gp n : Nat} {F : Nat → Nat → Nat} (h : Own w base 73 gp n n (fun _ => .slice none 0 0)) : Parts w base gp n (fun _ => 0) F (fun g => g = gp) :=
  ⟨rfl, fun g hg => by rw [hg]; exact h.lt.2, fun _ => .slice none 0 0, h, fun _ _ => ⟨World.ownsRow_nil _ _ _ _, fun g hg => by cases hg⟩, fun _ _ _ _ _ g hg => by cases hg⟩
end Go.Proofs.Ytioecklnijhjgaa
