/- pair.Mend: what it hands back, and the state of its loop. (Printed by wip/tools/gen_pair6.py.) -/
import Derived.Test.YthnbhhfbmkklmaaPair5
import Derived.Test.YthnbhhfbmkklmaaCloneS
import Derived.Test.YthnbhhfbmkklmaaClipS
namespace Go.Proofs.Ythnbhhfbmkklmaa
open Go.RowKit

theorem own_cap6 {w : World} {base e size : Nat} {ao : Option Addr} {n m cap : Nat} {xs : List Value} (h : w.ownsRow base e size (.slice ao n cap) m xs) : n ≤ cap ∧ cap ≤ maxLen := by
  rcases h.2 with ⟨hv, _⟩ | ⟨g, c, cur, hv, _, _, h1, h2, _⟩
  · cases hv; exact ⟨Nat.le_refl _, by unfold maxLen; omega⟩
  · cases hv; exact ⟨h1, h2⟩
def mA (ss : List ByteArray) (n : Nat) (p : ByteArray) (lost : List Int) (k : Nat) : Nat := xorN n (left lost (colP ss k)) ^^^ byteS p k
def mB (ss : List ByteArray) (n : Nat) (q : ByteArray) (lost : List Int) (k : Nat) : Nat := xorN n (left lost (wtd (colP ss k))) ^^^ byteS q k
theorem lsum_lt (ss : List ByteArray) (n : Nat) (lost : List Int) (k : Nat) : xorN n (left lost (colP ss k)) < 256 := xorN_lt fun _ _ => left_lt (colP_lt _ _ _)
theorem lwsum_lt (ss : List ByteArray) (n : Nat) (lost : List Int) (k : Nat) : xorN n (left lost (wtd (colP ss k))) < 256 := xorN_lt fun _ _ => left_lt (wtd_lt (colP_lt _ _ _))
theorem mA_lt (ss : List ByteArray) (n : Nat) (p : ByteArray) (lost : List Int) (k : Nat) : mA ss n p lost k < 256 := xor_lt256 (lsum_lt _ _ _ _) (byteS_lt _ _)
theorem mB_lt (ss : List ByteArray) (n : Nat) (q : ByteArray) (lost : List Int) (k : Nat) : mB ss n q lost k < 256 := xor_lt256 (lwsum_lt _ _ _ _) (byteS_lt _ _)
/-- Mended: the blocks F. -/
def MendOk (F : Nat → ByteArray) (n : Nat) (w : World) (e : Ending) (w' : World) : Prop :=
  ∃ g, e = .returned (.tuple #[.slice (some ⟨g, 0, none⟩) n n, .int .i64 0]) ∧ Reads w' (some ⟨g, 0, none⟩) (rowF n fun j => .string (F j)) ∧ Below w.heap.size w w'
def MendNo (E : Nat) (w : World) (e : Ending) (w' : World) : Prop := e = .returned (.tuple #[.slice none 0 0, .int .i64 (E : Nat)]) ∧ Below w.heap.size w w'
def MendP (c : Nat → Prop) (F : Nat → ByteArray) (m n : Nat) (w : World) (e : Ending) (w' : World) : Prop :=
  ((∀ k, k < m → c k) ∧ MendOk F n w e w') ∨ (¬ (∀ k, k < m → c k) ∧ MendNo 8 w e w')
def cond0 (ss : List ByteArray) (n : Nat) (p q : ByteArray) (k : Nat) : Prop := mA ss n p [] k = 0 ∧ mB ss n q [] k = 0
def cond1 (ss : List ByteArray) (n : Nat) (p q : ByteArray) (g : Nat) (k : Nat) : Prop := gmul (mA ss n p [(g : Int)] k) (gpow 2 g) = mB ss n q [(g : Int)] k
def one1 (ss : List ByteArray) (n m : Nat) (p : ByteArray) (g : Nat) (j : Nat) : ByteArray := if j = g then bytesOf m (mA ss n p [(g : Int)]) else sAt ss j
def solU (ss : List ByteArray) (n : Nat) (p q : ByteArray) (g h : Nat) (k : Nat) : Nat := gmul (mB ss n q [(g : Int), (h : Int)] k ^^^ gmul (mA ss n p [(g : Int), (h : Int)] k) (gpow 2 h)) (ginv (gpow 2 g ^^^ gpow 2 h))
def solV (ss : List ByteArray) (n : Nat) (p q : ByteArray) (g h : Nat) (k : Nat) : Nat := mA ss n p [(g : Int), (h : Int)] k ^^^ solU ss n p q g h k
def two2 (ss : List ByteArray) (n m : Nat) (p q : ByteArray) (g h : Nat) (j : Nat) : ByteArray := if j = h then bytesOf m (solV ss n p q g h) else if j = g then bytesOf m (solU ss n p q g h) else sAt ss j
theorem solU_lt (ss : List ByteArray) (n : Nat) (p q : ByteArray) (g h k : Nat) : solU ss n p q g h k < 256 := gmul_lt (xor_lt256 (mB_lt _ _ _ _ _) (gmul_lt (mA_lt _ _ _ _ _)))
theorem solV_lt (ss : List ByteArray) (n : Nat) (p q : ByteArray) (g h k : Nat) : solV ss n p q g h k < 256 := xor_lt256 (mA_lt _ _ _ _ _) (solU_lt _ _ _ _ _ _ _)
/-- What the call has made ahead of its loop. -/
structure MSt (ss : List ByteArray) (n m : Nat) (lost : List Int) (gx gy g0 cap0 : Nat) (F : Nat → ByteArray) (w wr : World) : Prop where
  ox : Own wr w.heap.size 5 gx m m (fun k => .int .u8 (xorN n (left lost (colP ss k)) : Nat))
  oy : Own wr w.heap.size 5 gy m m (fun k => .int .u8 (xorN n (left lost (wtd (colP ss k))) : Nat))
  o0 : Own wr w.heap.size 9 g0 n cap0 (fun j => .string (F j))
  bel : Below w.heap.size w wr
theorem MSt.below {ss : List ByteArray} {n m : Nat} {lost : List Int} {gx gy g0 cap0 : Nat} {F : Nat → ByteArray} {w wr wr' : World} (h : MSt ss n m lost gx gy g0 cap0 F w wr) (hb : Below wr.heap.size wr wr') : MSt ss n m lost gx gy g0 cap0 F w wr' :=
  ⟨h.ox.below hb, h.oy.below hb, h.o0.below hb, h.bel.trans (hb.mono h.bel.size)⟩
theorem MSt.kept {ss : List ByteArray} {n m : Nat} {lost : List Int} {gx gy g0 cap0 : Nat} {F : Nat → ByteArray} {w wr wr' : World} (h : MSt ss n m lost gx gy g0 cap0 F w wr) {g : Nat} (hg : wr.grownBy wr' (some g)) (h1 : gx ≠ g) (h2 : gy ≠ g) (h3 : g0 ≠ g) (hb : w.heap.size ≤ g) : MSt ss n m lost gx gy g0 cap0 F w wr' :=
  ⟨h.ox.kept hg h1, h.oy.kept hg h2, h.o0.kept hg h3, h.bel.trans ((Below.refl _ _).grown hg h.bel.size (fun k hk => by cases hk; exact hb))⟩
theorem own_A' (base m : Nat) (w : World) (hb : base ≤ w.heap.size) (hm : m ≤ 1000000) : Own ((w.alloc (.cells (rowF m (fun _ => Value.int .u8 0)).toArray 5)).alloc (.cells (rowF m (fun _ => Value.int .u8 0)).toArray 5)).drew base 5 w.heap.size m m (fun _ => .int .u8 0) :=
  own_mono (own_A m w (by unfold maxLen; omega)) hb
theorem own_B' (base m : Nat) (w : World) (hb : base ≤ w.heap.size) (hm : m ≤ 1000000) : Own ((w.alloc (.cells (rowF m (fun _ => Value.int .u8 0)).toArray 5)).alloc (.cells (rowF m (fun _ => Value.int .u8 0)).toArray 5)).drew base 5 (w.heap.size + 1) m m (fun _ => .int .u8 0) :=
  own_mono (own_B m w (by unfold maxLen; omega)) hb
theorem strRow (ss : List ByteArray) : ss.map Value.string = rowF ss.length (fun j => .string (sAt ss j)) := map_rowF ss Value.string ByteArray.empty
theorem one_str {ss : List ByteArray} : ∀ u ∈ ss.map Value.string, u.oneCell' = true := by
  intro u hu
  obtain ⟨s, _, rfl⟩ := List.mem_map.1 hu
  rfl
theorem pair_weight_q (i : Nat) (w : World) (hi : i < 9223372036854775808) :
    Calls Try.prog 55 #[.int .i64 i] w fun e w' => e = .returned (.int .u8 (gpow 2 i : Nat)) ∧ ∃ m, w' = w.drewN m :=
  (pair_weight i w hi).mono (by rintro e w' ⟨rfl, rfl⟩; exact ⟨rfl, 0, rfl⟩)
end Go.Proofs.Ythnbhhfbmkklmaa
