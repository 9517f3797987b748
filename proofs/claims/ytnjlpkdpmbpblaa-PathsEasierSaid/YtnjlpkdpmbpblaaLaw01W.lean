/- bivouaclaw01.works returns true: the example of the chapter, reckoned. Conditions: none. -/
import Derived.Test.YtnjlpkdpmbpblaaERoute
import Derived.Test.YtnjlpkdpmbpblaaELatest
import Derived.Test.YtnjlpkdpmbpblaaLx14
set_option linter.unusedVariables false
set_option linter.unusedSimpArgs false
namespace Go.Proofs.Ytnjlpkdpmbpblaa
open Go.RowKit Go.Proofs.YtnjlpkdpmbpblaaW.PrintWords
def exDay : List L.S26 := [⟨0, 2880⟩]
def exL : List L.S34 := [⟨0, 1, 2, ⟨100, 120⟩, ⟨0, 0⟩, exDay⟩, ⟨1, 2, 3, ⟨60, 90⟩, ⟨4, 10⟩, exDay⟩, ⟨2, 3, 2, ⟨60, 60⟩, ⟨0, 0⟩, [⟨400, 700⟩]⟩, ⟨0, 3, 2, ⟨300, 400⟩, ⟨0, 0⟩, exDay⟩, ⟨3, 0, 2, ⟨200, 240⟩, ⟨0, 0⟩, exDay⟩]
theorem ex_f : L.bivouaclaw01_Example.f = some (4, exL, 3, 0, 100, 100) := by rfl
theorem ex_arr : Arr (ntOf 4 exL) (ptyOf 3 0 100 100) true (-1) 0 400 [400, 520, 655, 715] := ⟨⟨1, by decide +kernel⟩, by decide +kernel⟩
theorem ex_dead : Dead (ntOf 4 exL) (ptyOf 3 0 100 100) 3 900 [500, 565, 700, 900] := ⟨⟨2, by decide +kernel⟩, by decide +kernel⟩
theorem ex_asked : asked (ntOf 4 exL) (ptyOf 3 0 100 100) 0 := by decide +kernel
theorem ex_routeM : routeM (ntOf 4 exL) (ptyOf 3 0 100 100) 0 400 3 715 = 3 := firstK_eq (by decide +kernel) (by decide +kernel) (fun j hj => by
  have h : j = 0 ∨ j = 1 ∨ j = 2 := by omega
  rcases h with rfl | rfl | rfl <;> decide +kernel)
theorem ex_route : L.paths_Route.f 4 exL 3 0 100 100 0 400 3 = some ([0, 1, 2], 715, 0) := by
  unfold L.paths_Route.f
  rw [if_pos ⟨ex_asked, by decide, by decide⟩, arrL_eq ex_arr, show nth [400, 520, 655, (715 : Int)] (3 : Int).toNat = 715 by decide +kernel, if_neg (by decide), ex_routeM, show (trk (ntOf 4 exL) (ptyOf 3 0 100 100) 3 715 0 400 3 3).route = [0, 1, 2] by decide +kernel]
theorem ex_latest : L.paths_Latest.f 4 exL 3 0 100 100 0 3 900 = some (500, 0) := by
  unfold L.paths_Latest.f
  rw [if_pos ⟨ex_asked, by decide, by decide⟩, deadL_eq ex_dead, show nth [500, 565, 700, (900 : Int)] (0 : Int).toNat = 500 by decide +kernel, if_neg (by decide), if_neg (by decide)]
theorem works_f : L.bivouaclaw01_works.f 9 = some true := by
  unfold L.bivouaclaw01_works.f
  rw [ex_f]
  simp only [Option.bind_some]
  rw [ex_route]
  simp only [Option.bind_some]
  rw [ex_latest]
  decide +kernel
theorem law01_works (w : World) : Calls Try.prog 7 #[] w fun e w' => e = .returned (.bool true) ∧ Below w.heap.size w w' := L.bivouaclaw01_works.calls 9 true w works_f
end Go.Proofs.Ytnjlpkdpmbpblaa
