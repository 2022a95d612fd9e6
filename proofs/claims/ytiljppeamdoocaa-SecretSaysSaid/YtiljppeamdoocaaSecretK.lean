/- SecretSays: the walk. (Printed by wip/tools/gen_secret.py.) -/
import Derived.Test.YtiljppeamdoocaaSecretK1b
import Derived.Test.YtiljppeamdoocaaSecretK1g
import Derived.Test.YtiljppeamdoocaaSecretK2b
import Derived.Test.YtiljppeamdoocaaSecretK2g
import Derived.Test.YtiljppeamdoocaaSecretK3b
import Derived.Test.YtiljppeamdoocaaSecretK3g
import Derived.Test.YtiljppeamdoocaaSecretK4b
import Derived.Test.YtiljppeamdoocaaSecretK4g
import Derived.Test.YtiljppeamdoocaaSecM0
namespace Go.Proofs.Ytiljppeamdoocaa
open Go.RowKit

theorem secretSays_walk (p s : Int) (ao : Option Addr) (nt ca : Nat) (tape : List Int) (n : Int) (bo : Option Addr) (nl cb : Nat) (l : Pts) (w : World) (hp : (Lit.int .i64 p).wf = true) (_hs : (Lit.int .i64 s).wf = true) (h1 : IntsIn .i64 w ao nt tape ∧ CapOk ao nt ca) (_hn : (Lit.int .i64 n).wf = true) (h2 : PairsIn .i64 .i64 w bo nl l ∧ CapOk bo nl cb) (h63 : nt * 8 ≤ 140737488351232) :
    Calls Try.prog 9 #[.int .i64 p, .int .i64 s, .slice ao nt ca, .int .i64 n, .slice bo nl cb] w fun e w' => e = .returned (.bool true) ∧ Below w.heap.size w w' := by
  obtain ⟨⟨hlt, _, _, hT'⟩, hna, _, _⟩ := h1
  obtain ⟨⟨hll, h64, _, hL'⟩, _, hcb, _⟩ := h2
  have hT : Hid (Reads w ao (tape.map (Value.int .i64))) := hT'
  have hL : Hid (Reads w bo (cells2 (l.map pV))) := hL'
  by_cases hd : dealE p s tape n = 0
  · by_cases hj : ptsE p l = 0
    · rcases Nat.eq_zero_or_pos nl with h0 | h0
      · exact secretSays_2g p s tape n l nt nl ao bo ca cb w hp hlt hll h63 h64 hna hcb hT hL hj h0 hd
      · cases hj3 : l.any (fun y => y.1 == 0) with
        | true => exact secretSays_3g p s tape n l nt nl ao bo ca cb w hp hlt hll h63 h64 hna hcb hT hL hj h0 hj3 hd
        | false => exact secretSays_4g p s tape n l nt nl ao bo ca cb w hp hlt hll h63 h64 hna hcb hT hL hj h0 hj3 hd
    · exact secretSays_1g p s tape n l nt nl ao bo ca cb w hp hlt hll h63 h64 hna hcb hT hL hj hd
  · by_cases hj : ptsE p l = 0
    · rcases Nat.eq_zero_or_pos nl with h0 | h0
      · exact secretSays_2b p s tape n l nt nl ao bo ca cb w hp hlt hll h63 h64 hna hcb hT hL hj h0 hd
      · cases hj3 : l.any (fun y => y.1 == 0) with
        | true => exact secretSays_3b p s tape n l nt nl ao bo ca cb w hp hlt hll h63 h64 hna hcb hT hL hj h0 hj3 hd
        | false => exact secretSays_4b p s tape n l nt nl ao bo ca cb w hp hlt hll h63 h64 hna hcb hT hL hj h0 hj3 hd
    · exact secretSays_1b p s tape n l nt nl ao bo ca cb w hp hlt hll h63 h64 hna hcb hT hL hj hd
end Go.Proofs.Ytiljppeamdoocaa
