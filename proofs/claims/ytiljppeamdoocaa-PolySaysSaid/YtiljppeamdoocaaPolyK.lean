/- PolySays: the walk. (Printed by wip/tools/gen_poly.py.) -/
import Derived.Test.YtiljppeamdoocaaPolyK0
import Derived.Test.YtiljppeamdoocaaPolyK1
import Derived.Test.YtiljppeamdoocaaPolyK2
import Derived.Test.YtiljppeamdoocaaPolyK3
import Derived.Test.YtiljppeamdoocaaPolyK4
import Derived.Test.YtiljppeamdoocaaPolyK5
import Derived.Test.YtiljppeamdoocaaArgs
namespace Go.Proofs.Ytiljppeamdoocaa
open Go.RowKit

theorem polySays_walk (p : Int) (ao : Option Addr) (nf ca : Nat) (f : List Int) (bo : Option Addr) (ng cb : Nat) (g : List Int) (w : World) (hp : (Lit.int .i64 p).wf = true) (h1 : IntsIn .i64 w ao nf f ∧ CapOk ao nf ca) (h2 : IntsIn .i64 w bo ng g ∧ CapOk bo ng cb) :
    Calls Try.prog 6 #[.int .i64 p, .slice ao nf ca, .slice bo ng cb] w fun e w' => e = .returned (.bool true) ∧ Below w.heap.size w w' := by
  obtain ⟨⟨hlf, h63, _, hF⟩, hna, hca, hca2⟩ := h1
  obtain ⟨⟨hlg, h64, _, hG⟩, hnb, _, _⟩ := h2
  by_cases hf : polE p f = 0
  · by_cases hg : polE p g = 0
    · rcases Nat.eq_zero_or_pos nf with q1 | q1
      · rcases Nat.eq_zero_or_pos ng with q2 | q2
        · exact polySays_ok1 p f g ao bo nf ng ca cb w hp hlf hlg h63 h64 hca hca2 hna hnb hF hG hf hg q1 q2
        · exact polySays_ok2 p f g ao bo nf ng ca cb w hp hlf hlg h63 h64 hca hca2 hna hnb hF hG hf hg q1 q2
      · rcases Nat.eq_zero_or_pos ng with q2 | q2
        · exact polySays_ok3 p f g ao bo nf ng ca cb w hp hlf hlg h63 h64 hca hca2 hna hnb hF hG hf hg q1 q2
        · by_cases q3 : 41 < nf + ng
          · exact polySays_ok4 p f g ao bo nf ng ca cb w hp hlf hlg h63 h64 hca hca2 hna hnb hF hG hf hg q1 q2 q3
          · exact polySays_ok5 p f g ao bo nf ng ca cb w hp hlf hlg h63 h64 hca hca2 hna hnb hF hG hf hg q1 q2 (by omega)
    · exact polySays_bad2 p f g ao bo nf ng ca cb w hp hlf hlg h63 h64 hca hca2 hna hnb hF hG hf hg
  · exact polySays_bad1 p f g ao bo nf ng ca cb w hp hlf hlg h63 h64 hca hca2 hna hnb hF hG hf
end Go.Proofs.Ytiljppeamdoocaa
