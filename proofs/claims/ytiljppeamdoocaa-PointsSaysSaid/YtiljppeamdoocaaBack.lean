/- slices.Backward at ints: what it hands back has its contract (from the last element to the first). After the kit's worked text on slices.All. -/
import Derived.RangeFuncBox
import Derived.RangeFuncLeaves
import Derived.Shelf.Abstract
import Derived.WalkKit
import Derived.OwnWalkIn
import Derived.TacticsInMore
import Derived.LoopNIn
import Derived.LoopIn
import Derived.Test.YtiljppeamdoocaaRows
import Derived.Test.YtiljppeamdoocaaMem
namespace Go.Proofs.Ytiljppeamdoocaa
open Go.RowKit Go.Shelf
attribute [local go_sem] Oper.semAt_some

/-- What has come when k rounds are over. -/
def dnto {α : Type} (f : Nat → α) (k : Nat) : List α := (List.range k).map f
theorem dnto_succ {α : Type} (f : Nat → α) (k : Nat) : dnto f (k + 1) = dnto f k ++ [f k] := by simp [dnto, List.range_succ]
theorem dnto_length {α : Type} (f : Nat → α) (k : Nat) : (dnto f k).length = k := by simp [dnto]
theorem dnto_take {α : Type} (f : Nat → α) {k j : Nat} (h : j ≤ k) : (dnto f k).take j = dnto f j := by
  unfold dnto
  rw [← List.map_take, List.take_range, Nat.min_eq_left h]
/-- What a round must keep: what lay below n₀, and the iterator's own box. -/
def KpB (n₀ Bs : Nat) (A B : World) : Prop := Below n₀ A B ∧ B.heap[Bs]? = A.heap[Bs]?
theorem KpB.refl (n₀ Bs : Nat) (A : World) : KpB n₀ Bs A A := ⟨Below.refl _ _, rfl⟩
theorem KpB.trans {n₀ Bs : Nat} {A B C : World} (h : KpB n₀ Bs A B) (h2 : KpB n₀ Bs B C) : KpB n₀ Bs A C := ⟨h.1.trans h2.1, h2.2.trans h.2⟩
variable {α : Type} (enc : α → Array Value) (atk : Nat → α)
set_option maxRecDepth 100000 in
set_option maxHeartbeats 2000000 in
theorem back1_in (F : Fence) (n : Nat) (h8 : F.fn 121) (hro : F.round = none) (hn : 1 ≤ n) (l Bs n₀ b off len cap : Nat) (zs : List Int) (hz : zs.length = len) (hreach : len ≤ 9223372036854775807) (hb : b < n₀) (hat : ∀ k, k < len → enc (atk k) = #[.int .i64 ((len - 1 - k : Nat) : Int), .int .i64 (zs[len - 1 - k]?.getD 0)]) (J Jx : List α → World → Prop)
    (hY : ∀ pre x W, J pre W → pre.length < len → YieldAt F (n - 1) Try.prog l (enc x) W fun e W' =>
      (e = .returned (.bool true) ∧ J (pre ++ [x]) W' ∧ KpB n₀ Bs W W') ∨ (e = .returned (.bool false) ∧ Jx (pre ++ [x]) W'))
    (W : World) (hBs : W.cell? ⟨Bs, 0, none⟩ = some (.slice (some ⟨b, off, none⟩) len cap)) (hc : ∀ j, j < len → W.cell? ⟨b, off + j, none⟩ = some (.int .i64 (zs[j]?.getD 0))) (h0 : J [] W) :
    CallsIn F n Try.prog 121 #[.func (.yield l) #[] #[], .pointer (some ⟨Bs, 0, none⟩)] W fun e W' => (∃ v, e = .returned v) ∧
      ((∃ ys, ys = dnto atk len ∧ J ys W') ∨ (∃ pre, (∃ k, k ≤ len ∧ pre = dnto atk k) ∧ Jx pre W')) := by
  refine callsIn_of_wp Try.func121 rfl h8 ?_ hro
  simp only [Try.ntmps121, List.size_toArray, List.length_cons, List.length_nil, Nat.reduceAdd, Nat.reduceSub, Array.replicate_succ, Array.replicate_zero, List.push_toArray, List.append_toArray, List.nil_append, List.cons_append]
  have w0 : IntKind.i64.wrap ((len : Int) - 1) = (len : Int) - 1 := IntWalk.i64_in _ (by omega)
  gi_wp2
  gi_loopw [3] (fun i wr => ∃ k : Nat, k ≤ len ∧ i = .int .i64 ((len : Int) - 1 - k) ∧ J (dnto atk k) wr ∧ KpB n₀ Bs W wr)
    (fun i _ => (intOf i + 1).toNat)
  case atStart => exact ⟨0, Nat.zero_le _, by simp, h0, KpB.refl _ _ _⟩
  case round =>
    obtain ⟨k, hk, rfl, hJs, hnx⟩ := hrel
    have hBx : wr.cell? ⟨Bs, 0, none⟩ = _ := (World.cell?_of_block hnx.2).trans hBs
    by_cases hlt : k < len
    · obtain ⟨i, hi⟩ : ∃ i, len - 1 - k = i := ⟨_, rfl⟩
      have hi2 : (len : Int) - 1 - k = (i : Int) := by omega
      have hcx : wr.cell? ⟨b, off + i, none⟩ = some (.int .i64 (zs[i]?.getD 0)) := (hnx.1.cell (p := ⟨b, off + i, none⟩) hb).trans (hc i (by omega))
      obtain ⟨x, hx⟩ : ∃ x, zs[i]?.getD 0 = x := ⟨_, rfl⟩
      have hba := hat k hlt
      rw [hi, hx] at hba
      rw [hx] at hcx
      obtain ⟨fn, tmps, assign, body, hy, hR⟩ := hY _ (atk k) wr hJs (by rw [dnto_length]; exact hlt)
      rw [hba] at hy
      rw [hi2]
      have i0 : (0 : Int) ≤ i := by omega
      have i1 : (i : Int) < len := by omega
      have i2 : i < len := by omega
      have w1 : IntKind.i64.wrap ((i : Int) - 1) = (i : Int) - 1 := IntWalk.i64_in _ (by omega)
      gi_wp2
      refine hR.mono ?_
      rintro e W3 (⟨rfl, hJ3, hk3⟩ | ⟨rfl, hJx3⟩)
      · gi_wp2
        go_roundw
        case rel => exact ⟨k + 1, by omega, by congr 1; omega, by rw [dnto_succ]; exact hJ3, hnx.trans hk3⟩
        case measure => simp [intOf]
      · gi_wp2
        refine bodyPost_ret (results_none rfl _ _ _) rfl ?_
        exact ⟨⟨_, rfl⟩, .inr ⟨_, ⟨k + 1, by omega, by rw [dnto_succ]⟩, hJx3⟩⟩
    · obtain rfl : k = len := by omega
      have hneg : ¬ (0 : Int) ≤ (k : Int) - 1 - k := by omega
      gi_wp2
      go_end0
      exact ⟨⟨_, rfl⟩, .inl hJs⟩
set_option maxRecDepth 100000 in
set_option maxHeartbeats 1000000 in
theorem back1_nil_in (F : Fence) (n : Nat) (h8 : F.fn 121) (hro : F.round = none) (l Bs : Nat) (ao : Option Addr) (cap : Nat) (J : List α → World → Prop) (W : World) (hBs : W.cell? ⟨Bs, 0, none⟩ = some (.slice ao 0 cap)) (h0 : J [] W) :
    CallsIn F n Try.prog 121 #[.func (.yield l) #[] #[], .pointer (some ⟨Bs, 0, none⟩)] W fun e W' => (∃ v, e = .returned v) ∧ J [] W' := by
  refine callsIn_of_wp Try.func121 rfl h8 ?_ hro
  simp only [Try.ntmps121, List.size_toArray, List.length_cons, List.length_nil, Nat.reduceAdd, Nat.reduceSub, Array.replicate_succ, Array.replicate_zero, List.push_toArray, List.append_toArray, List.nil_append, List.cons_append]
  gi_wp2
  gi_loopw [3] (fun i wr => i = .int .i64 (-1) ∧ J [] wr) (fun _ _ => 0)
  case atStart => exact ⟨rfl, h0⟩
  case round =>
    obtain ⟨rfl, hJs⟩ := hrel
    gi_wp2
    go_end0
    exact ⟨⟨_, rfl⟩, hJs⟩
set_option maxHeartbeats 1000000 in
theorem back_in (F : Fence) (n : Nat) (h6 : F.fn 73) (hro : F.round = none) (a : Option Addr) (len cap : Nat) (w : World) :
    CallsIn F n Try.prog 73 #[.slice a len cap] w fun e w' => e = .returned (.func (.func 121) #[] #[.pointer (some ⟨w.heap.size, 0, none⟩)]) ∧ w' = w.alloc (.cells #[.slice a len cap] 24) := by
  refine callsIn_of_wp Try.func73 rfl h6 ?_ hro
  simp only [Try.ntmps73, List.size_toArray, List.length_cons, List.length_nil, Nat.reduceAdd, Nat.reduceSub, Array.replicate_succ, Array.replicate_zero, List.push_toArray, List.append_toArray, List.nil_append, List.cons_append]
  gi_wp2
  go_ret
  exact ⟨rfl, rfl⟩
/-- The slice value sv holds the ints zs, in a block below n₀; or there are none. -/
def IntsB (n₀ : Nat) (W : World) (a : Option Addr) (cap : Nat) (zs : List Int) : Prop :=
  zs = [] ∨ ∃ b off, a = some ⟨b, off, none⟩ ∧ b < n₀ ∧ ∀ j, j < zs.length → W.cell? ⟨b, off + j, none⟩ = some (.int .i64 (zs[j]?.getD 0))
theorem IntsB.below {n₀ : Nat} {A B : World} (h : Below n₀ A B) {a : Option Addr} {cap : Nat} {zs : List Int} : IntsB n₀ A a cap zs → IntsB n₀ B a cap zs
  | .inl e => .inl e
  | .inr ⟨b, off, e, hb, hc⟩ => .inr ⟨b, off, e, hb, fun j hj => (h.cell (p := ⟨b, off + j, none⟩) hb).trans (hc j hj)⟩
/-- slices.Backward hands back a value that keeps the iterator's contract. -/
theorem back_stops (F : Fence) (n : Nat) (h8 : F.fn 121) (hro : F.round = none) (hn : 1 ≤ n) (Bs n₀ m : Nat) (a : Option Addr) (cap : Nat) (zs : List Int) (hm : zs.length = m) (hreach : m ≤ 9223372036854775807) (hat : ∀ k, k < m → enc (atk k) = #[.int .i64 ((m - 1 - k : Nat) : Int), .int .i64 (zs[m - 1 - k]?.getD 0)]) (w : World) (hBs : Bs < w.heap.size) (hn₀ : n₀ ≤ w.heap.size)
    (hc : w.cell? ⟨Bs, 0, none⟩ = some (.slice a m cap)) (hI : IntsB n₀ w a cap zs) :
    SeqStopsK F n Try.prog 121 #[.pointer (some ⟨Bs, 0, none⟩)] enc (KpB n₀ Bs) (fun ys => ys = dnto atk m)
      (fun pre => ∃ k, k ≤ m ∧ pre = dnto atk k) m w := fun l J Jx W hW _ _ hY h0 => by
  subst hm
  have hc' := (hW.cell (p := ⟨Bs, 0, none⟩) hBs).trans hc
  rcases hI.below (hW.mono hn₀) with rfl | ⟨b, off, rfl, hb, hcs⟩
  · exact (back1_nil_in F n h8 hro l Bs a cap J W hc' h0).mono fun e W' ⟨he, hj⟩ => ⟨he, .inl ⟨_, rfl, hj⟩⟩
  · exact back1_in enc atk F n h8 hro hn l Bs n₀ b off zs.length cap zs rfl hreach hb hat J Jx hY W hc' hcs h0
end Go.Proofs.Ytiljppeamdoocaa
