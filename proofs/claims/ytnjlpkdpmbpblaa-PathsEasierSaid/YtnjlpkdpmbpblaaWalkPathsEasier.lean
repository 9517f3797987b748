/- The walk of bivouaclaw01.PathsEasier as its row asks for it. Conditions: none. -/
import Derived.Test.YtnjlpkdpmbpblaaOpPathsEasier
import Derived.Test.YtnjlpkdpmbpblaaLaw01
set_option linter.unusedVariables false
set_option linter.unusedSimpArgs false
namespace Go.Proofs.Ytnjlpkdpmbpblaa
theorem walk_PathsEasier : PathsEasierOp.Walk := fun x0 A0_1 c0_1 x1 x2 A2_4 c2_4 x3 A3_14 c3_14 w hr0 hc0 _ _ _ _ _ hr3 _ _ =>
  law01_easier x0.f0 x0.f1 ⟨x1.f0, x1.f1, ⟨x1.f2.f0, x1.f2.f1⟩⟩ ⟨x2.f0, x2.f1, x2.f2, x2.f3, x2.f5⟩ ⟨x3.f0, x3.f1, x3.f2, x3.f3, x3.f4, x3.f5, x3.f6, x3.f7⟩ A0_1 A2_4 A3_14 c0_1 x2.f4.length c2_4 c3_14 w hr0 hc0 hr3
end Go.Proofs.Ytnjlpkdpmbpblaa
