/- slices.Sort at ints: the library's contract, laid at this program. (Printed by wip/tools/lay_sort.py for one seat: the numbers are that seat's.) -/
import Derived.Shelf.SortM.Plain
import Derived.Sort.OwnSortedInts
import Derived.Test.YtgdcmebhopjfaaaRows
import Derived.Test.YtgdcmebhopjfaaaFormK
namespace Go.Proofs.Ytgdcmebhopjfaaa
open Go.Sort Go.RowKit

def sortA_ren : Go.Shelf.Ren := ⟨fun | 5 => 93 | 8 => 153 | 7 => 152 | 19 => 181 | 20 => 182 | 10 => 172 | 11 => 173 | 12 => 174 | 13 => 175 | 14 => 176 | 15 => 177 | 16 => 178 | 17 => 179 | 18 => 180 | 30 => 206 | 31 => 207 | 32 => 208 | 33 => 209 | 34 => 210 | 35 => 211 | 40 => 221 | n => n, fun | 23 => 22 | 25 => 3 | 3 => 3 | 32 => 154 | 22 => 22 | 0 => 0 | 44 => 102 | 46 => 183 | 4 => 4 | 36 => 202 | 35 => 201 | 41 => 206 | 5 => 5 | 9 => 9 | 53 => 224 | 57 => 228 | 63 => 237 | 64 => 238 | n => n, fun | n => n⟩
theorem sortA : Go.Proofs.SlLaysM.n5 Try.prog sortA_ren := {
  mixed := by kernel_rfl
  f5 := ⟨Try.f93.name, by decide, Try.func93.trans (congrArg some (by kernel_rfl))⟩
  f7 := ⟨Try.f152.name, by decide, Try.func152.trans (congrArg some (by kernel_rfl))⟩
  f8 := Try.func153.trans (congrArg some (by kernel_rfl))
  f10 := ⟨Try.f172.name, by decide, Try.func172.trans (congrArg some (by kernel_rfl))⟩
  f11 := ⟨Try.f173.name, by decide, Try.func173.trans (congrArg some (by kernel_rfl))⟩
  f12 := ⟨Try.f174.name, by decide, Try.func174.trans (congrArg some (by kernel_rfl))⟩
  f13 := ⟨Try.f175.name, by decide, Try.func175.trans (congrArg some (by kernel_rfl))⟩
  f14 := ⟨Try.f176.name, by decide, Try.func176.trans (congrArg some (by kernel_rfl))⟩
  f15 := ⟨Try.f177.name, by decide, Try.func177.trans (congrArg some (by kernel_rfl))⟩
  f16 := ⟨Try.f178.name, by decide, Try.func178.trans (congrArg some (by kernel_rfl))⟩
  f17 := ⟨Try.f179.name, by decide, Try.func179.trans (congrArg some (by kernel_rfl))⟩
  f18 := ⟨Try.f180.name, by decide, Try.func180.trans (congrArg some (by kernel_rfl))⟩
  f19 := Try.func181.trans (congrArg some (by kernel_rfl))
  f20 := Try.func182.trans (congrArg some (by kernel_rfl))
  f30 := ⟨Try.f206.name, by decide, Try.func206.trans (congrArg some (by kernel_rfl))⟩
  f31 := Try.func207.trans (congrArg some (by kernel_rfl))
  f32 := Try.func208.trans (congrArg some (by kernel_rfl))
  f33 := ⟨Try.f209.name, by decide, Try.func209.trans (congrArg some (by kernel_rfl))⟩
  f34 := ⟨Try.f210.name, by decide, Try.func210.trans (congrArg some (by kernel_rfl))⟩
  f35 := ⟨Try.f211.name, by decide, Try.func211.trans (congrArg some (by kernel_rfl))⟩
  f40 := ⟨Try.f221.name, by decide, Try.func221.trans (congrArg some (by kernel_rfl))⟩
  t0 := Try.underlying0
  a0 := Try.isAgg0
  z0 := Try.sizeOf0
  v0 := Try.zeroValue0
  t3 := Try.underlying3
  a3 := Try.isAgg3
  z3 := Try.sizeOf3
  v3 := Try.zeroValue3
  t4 := Try.underlying4
  a4 := Try.isAgg4
  z4 := Try.sizeOf4
  v4 := Try.zeroValue4
  t5 := Try.underlying5
  a5 := Try.isAgg5
  z5 := Try.sizeOf5
  v5 := Try.zeroValue5
  t9 := Try.underlying9
  a9 := Try.isAgg9
  z9 := Try.sizeOf9
  v9 := Try.zeroValue9
  t22 := Try.underlying22
  a22 := Try.isAgg22
  z22 := Try.sizeOf22
  v22 := Try.zeroValue22
  t23 := Try.underlying22
  a23 := Try.isAgg22
  z23 := Try.sizeOf22
  v23 := Try.zeroValue22
  t25 := Try.underlying3
  a25 := Try.isAgg3
  z25 := Try.sizeOf3
  v25 := Try.zeroValue3
  t32 := Try.underlying154
  a32 := Try.isAgg154
  z32 := Try.sizeOf154
  v32 := Try.zeroValue154
  t35 := Try.underlying201
  a35 := Try.isAgg201
  z35 := Try.sizeOf201
  v35 := Try.zeroValue201
  t36 := Try.underlying202
  a36 := Try.isAgg202
  z36 := Try.sizeOf202
  v36 := Try.zeroValue202
  t41 := Try.underlying206
  a41 := Try.isAgg206
  z41 := Try.sizeOf206
  v41 := Try.zeroValue206
  t44 := Try.underlying102
  a44 := Try.isAgg102
  z44 := Try.sizeOf102
  v44 := Try.zeroValue102
  t46 := Try.underlying183
  a46 := Try.isAgg183
  z46 := Try.sizeOf183
  v46 := Try.zeroValue183
  t53 := Try.underlying224
  a53 := Try.isAgg224
  z53 := Try.sizeOf224
  v53 := Try.zeroValue224
  t57 := Try.underlying228
  a57 := Try.isAgg228
  z57 := Try.sizeOf228
  v57 := Try.zeroValue228
  t63 := Try.underlying237
  a63 := Try.isAgg237
  z63 := Try.sizeOf237
  v63 := Try.zeroValue237
  t64 := Try.underlying238
  a64 := Try.isAgg238
  z64 := Try.sizeOf238
  v64 := Try.zeroValue238 }

theorem sort_int (blk off cap : Nat) (zs : List Int) (w : World) (hH : Holds (Value.int .i64) w blk off zs.toArray) (hblk : blk < w.heap.size) (hsz : zs.length < 4611686018427387904) :
    Calls Try.prog 93 #[.slice (some ⟨blk, off, none⟩) zs.length cap] w fun e w' =>
      e = .returned (.tuple #[]) ∧ ∃ n os, w' = grow (putRow (Value.int .i64) (Sort.ahead w n) blk off (zs.mergeSort fun x y => decide (x ≤ y)).toArray) os :=
  AnyM.slices_Sort_int sortA blk off cap zs w hH hblk hsz
/-- Of a slice of the call's own that is not empty. -/
theorem sort_own (zs ts : List Int) (n base : Nat) (g cap : Nat) (w : World) (hO : w.ownsRow base 3 1 (.slice (some ⟨g, 0, none⟩) n cap) n (zs.map (Value.int .i64))) (hn : n ≤ 1000000000) (ht : (zs.mergeSort fun x y => decide (x ≤ y)) = ts) :
    Calls Try.prog 93 #[.slice (some ⟨g, 0, none⟩) n cap] w fun e w' => e = .returned (.tuple #[]) ∧ w'.ownsRow base 3 1 (.slice (some ⟨g, 0, none⟩) n cap) n (ts.map (Value.int .i64)) ∧ w.grownBy w' (some g) := by
  have hl : zs.length = n := by simpa using hO.1
  have htl : ts.length = zs.length := by rw [← ht, List.length_mergeSort]
  subst ht
  rcases hO.2 with ⟨h0, _⟩ | ⟨g', cap', cur, hv, hb, hg, h1, h2, h3, h4⟩
  · cases h0
  injection hv with e1 e2 e3
  injection e1 with e1
  injection e1 with e1
  subst e1 e3
  rw [Nat.mul_one, ← hl] at h4
  have hH := holds_of_blockI hg h4
  have hlt : g < w.heap.size := (Array.getElem?_eq_some_iff.1 hg).1
  have h := sort_int g 0 cap zs w hH hlt (by omega)
  rw [hl] at h
  refine h.mono ?_
  rintro e w' ⟨rfl, m, os, rfl⟩
  refine ⟨rfl, ?_, grownBy_sortedI _⟩
  have h5 := ownsRow_sortedI (n := m) (os := os) htl hb hg (by omega) h2 h3
  rwa [hl] at h5
end Go.Proofs.Ytgdcmebhopjfaaa
