/- The row of bivouac/bivouaclaw01.PathsEasier, out of its walk. Printed by a program of the session. Conditions: none. -/
import Derived.Test.YtnjlpkdpmbpblaaRows
import Derived.Test.YtnjlpkdpmbpblaaOpPathsEasier
import Derived.Test.YtnjlpkdpmbpblaaWalkPathsEasier
set_option linter.unusedVariables false
set_option linter.unusedSimpArgs false
namespace Go.Proofs.Ytnjlpkdpmbpblaa.PathsEasierRow
open Go.ChangeShapes Go.WideShapes Go.ChangeAt Go.RowKit Go.Proofs.Ytnjlpkdpmbpblaa
theorem own : ownKnob Try.prog.godebug = none := by kernel_rfl
theorem laidOut : laidOutB Try.prog = true := by kernel_rfl
set_option maxRecDepth 100000 in
theorem lifted (os : Os) (started : os.Started) (H : Type) (enc : TypeId × Value → H) :
    ReturnsInHanded {} Try.checked os 3 .any (Rows.pathsEasierSpec.pre6 enc Try.prog Try.f3 Rows.pathsEasierRow.domain false) (Rows.pathsEasierSpec.post enc Try.prog Try.f3 false true false false) := by
  refine returnsInHanded_of_change_sized (C := Try.checked) own started (by kernel_rfl) Try.func3
    (ChangeSpec.witness6 (enc := enc) (C := Try.checked) false ⟨#[], #[.agg #[.int .i64 0, .slice none 0 0], .agg #[.int .i64 0, .int .i64 0, .int .i64 0, .int .i64 0], .agg #[.int .i64 0, .int .i64 0, .int .i64 0, .int .i64 0, .slice none 0 0, .int .i64 0], .agg #[.int .i64 0, .int .i64 0, .int .i64 0, .int .i64 0, .int .i64 0, .int .i64 0, .int .i64 0, .int .i64 0, .int .i64 0, .int .i64 0, .int .i64 0, .int .i64 0, .int .i64 0, .int .i64 0, .slice none 0 0]], []⟩ 8 (by kernel_rfl) (by kernel_rfl) (by kernel_rfl) (by kernel_rfl)) ?_
  intro W base args ds gs before hval0 hW hcnd hsz0 _
  have hval : ∀ (j : Nat) t v, Try.f3.params[j]? = some t → args[j]? = some v → Value.okWide Try.prog W .any base t v := hval0
  have hW' := hW
  obtain ⟨p, q, hA0, hV, rfl, hfz, hnd⟩ := hW
  have hA : DataW.TrodAll enc Try.prog W 0 (fun _ => true) true Try.f3.params.toList args.toList ds p := hA0
  rw [Try.params3] at hA hval
  obtain ⟨v0, vs0, d0, ds0, p0, q0, hargs, rfl, rfl, h0, r0⟩ := trodAll_cons hA
  obtain ⟨v1, vs1, d1, ds1, p1, q1, rfl, rfl, rfl, h1, r1⟩ := trodAll_cons r0
  obtain ⟨v2, vs2, d2, ds2, p2, q2, rfl, rfl, rfl, h2, r2⟩ := trodAll_cons r1
  obtain ⟨v3, vs3, d3, ds3, p3, q3, rfl, rfl, rfl, h3, r3⟩ := trodAll_cons r2
  obtain ⟨rfl, rfl, rfl⟩ := trodAll_nil r3
  obtain rfl : args = #[v0, v1, v2, v3] := by cases args; simp_all
  obtain ⟨rfl, rfl⟩ := trodVars_none hV
  have k0 := h0
  have lt0 : ∀ x ∈ p0, x.block < W.heap.size := by obtain ⟨m, hm⟩ := k0; exact DataW.trod_lt m _ _ _ hm
  obtain ⟨fl0, hf0⟩ := h0
  obtain ⟨cs0, rfl, _⟩ := okWide_struct Try.underlying24 (hval 0 24 v0 rfl rfl)
  obtain ⟨x0, hk0, hg0⟩ := PathsEasierOp.op24 enc W 0 _ true fl0 cs0.toList _ (by simpa [Value.cells] using hf0)
  obtain ⟨A0_1, c0_1, hcs0, hr0_1, hc0_1⟩ := PathsEasierOp.shape24 hk0
  obtain rfl : cs0 = #[.int .i64 x0.f0, .slice A0_1 x0.f1.length c0_1] := Array.toList_inj.1 hcs0
  have k1 := h1
  have lt1 : ∀ x ∈ p1, x.block < W.heap.size := by obtain ⟨m, hm⟩ := k1; exact DataW.trod_lt m _ _ _ hm
  obtain ⟨fl1, hf1⟩ := h1
  obtain ⟨cs1, rfl, _⟩ := okWide_struct Try.underlying28 (hval 1 28 v1 rfl rfl)
  obtain ⟨x1, hk1, hg1⟩ := PathsEasierOp.op28 enc W 0 _ true fl1 cs1.toList _ (by simpa [Value.cells] using hf1)
  obtain hcs1 := PathsEasierOp.shape28 hk1
  obtain rfl : cs1 = #[.int .i64 x1.f0, .int .i64 x1.f1, .int .i64 x1.f2.f0, .int .i64 x1.f2.f1] := Array.toList_inj.1 hcs1
  have k2 := h2
  have lt2 : ∀ x ∈ p2, x.block < W.heap.size := by obtain ⟨m, hm⟩ := k2; exact DataW.trod_lt m _ _ _ hm
  obtain ⟨fl2, hf2⟩ := h2
  obtain ⟨cs2, rfl, _⟩ := okWide_struct Try.underlying31 (hval 2 31 v2 rfl rfl)
  obtain ⟨x2, hk2, hg2⟩ := PathsEasierOp.op31 enc W 0 _ true fl2 cs2.toList _ (by simpa [Value.cells] using hf2)
  obtain ⟨A2_4, c2_4, hcs2, hr2_4, hc2_4⟩ := PathsEasierOp.shape31 hk2
  obtain rfl : cs2 = #[.int .i64 x2.f0, .int .i64 x2.f1, .int .i64 x2.f2, .int .i64 x2.f3, .slice A2_4 x2.f4.length c2_4, .int .i64 x2.f5] := Array.toList_inj.1 hcs2
  have k3 := h3
  have lt3 : ∀ x ∈ p3, x.block < W.heap.size := by obtain ⟨m, hm⟩ := k3; exact DataW.trod_lt m _ _ _ hm
  obtain ⟨fl3, hf3⟩ := h3
  obtain ⟨cs3, rfl, _⟩ := okWide_struct Try.underlying36 (hval 3 36 v3 rfl rfl)
  obtain ⟨x3, hk3, hg3⟩ := PathsEasierOp.op36 enc W 0 _ true fl3 cs3.toList _ (by simpa [Value.cells] using hf3)
  obtain ⟨A3_14, c3_14, hcs3, hr3_14, hc3_14⟩ := PathsEasierOp.shape36 hk3
  obtain rfl : cs3 = #[.int .i64 x3.f0, .int .i64 x3.f1, .int .i64 x3.f2, .int .i64 x3.f3, .int .i64 x3.f4, .int .i64 x3.f5, .int .i64 x3.f6, .int .i64 x3.f7.f0, .int .i64 x3.f7.f1, .int .i64 x3.f7.f2, .int .i64 x3.f7.f3.f0, .int .i64 x3.f7.f3.f1, .int .i64 x3.f7.f4.f0, .int .i64 x3.f7.f4.f1, .slice A3_14 x3.f7.f5.length c3_14] := Array.toList_inj.1 hcs3
  clear hA0 hval0 hsz0
  refine (walk_PathsEasier x0 A0_1 c0_1 x1 x2 A2_4 c2_4 x3 A3_14 c3_14 W hr0_1 hc0_1 hg0 hg1 hr2_4 hc2_4 hg2 hr3_14 hc3_14 hg3).mono fun e W' ⟨he, bel⟩ => ?_
  subst he
  exact ⟨_, rfl, _, _, _, [], _, [], hW', trodAll_mk1 (shut_bool Try.underlying4 _), (trodAll_cons_mk (Below.trod laidOut (by kernel_rfl) (of_decide_eq_true (by kernel_rfl)) k0 bel lt0) (trodAll_cons_mk (Below.trod laidOut (by kernel_rfl) (of_decide_eq_true (by kernel_rfl)) k1 bel lt1) (trodAll_cons_mk (Below.trod laidOut (by kernel_rfl) (of_decide_eq_true (by kernel_rfl)) k2 bel lt2) (trodAll_cons_mk (Below.trod laidOut (by kernel_rfl) (of_decide_eq_true (by kernel_rfl)) k3 bel lt3) trodAll_mk0)))), rfl, bel.frame _, fun h => by cases h⟩
theorem over : Rows.pathsEasierRow.holds Try.pinned (OpenSpec.ofChange Rows.pathsEasierSpec) :=
  OpenClaim.holds_of_wide 3 Try.f3 rfl rfl rfl rfl rfl rfl rfl ⟨rfl, rfl, rfl, rfl, rfl⟩ rfl rfl rfl rfl rfl (by kernel_rfl) Try.func3 (by kernel_rfl)
    (of_decide_eq_true (by kernel_rfl)) (by unfold Func.isWrapper; first | (rw [if_pos (by decide +kernel)]; kernel_rfl) | (rw [if_neg (by decide +kernel)]; exact ⟨rfl, rfl⟩))
    (fun os started H enc _ => lifted os started H enc)
theorem proved : Rows.PathsEasierSaid := over
end Go.Proofs.Ytnjlpkdpmbpblaa.PathsEasierRow
namespace Go.Proofs.Ytnjlpkdpmbpblaa
/-- The row, under a short name, for the claim. -/
theorem pathsEasier_holds : Rows.PathsEasierSaid := PathsEasierRow.proved
#print axioms pathsEasier_holds
end Go.Proofs.Ytnjlpkdpmbpblaa
