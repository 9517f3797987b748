/- paths.Route in the printed texts' words. Conditions: the net's paths read as a list; net, party, places and minute are valid (else the plain function says nothing). -/
import Derived.Test.YtnjlpkdpmbpblaaEArrive
import Derived.Test.YtnjlpkdpmbpblaaRoute
import Derived.Test.YtnjlpkdpmbpblaaFound
set_option linter.unusedVariables false
set_option linter.unusedSimpArgs false
namespace Go.Proofs.Ytnjlpkdpmbpblaa
/-- the first number at which something is so -/
def firstK (q : Nat → Bool) (N : Nat) : Nat := ((List.range N).find? q).getD 0
theorem firstK_eq {q : Nat → Bool} {N m : Nat} (hm : m < N) (h : q m = true) (hl : ∀ j, j < m → q j = false) : firstK q N = m := by
  unfold firstK
  have h1 : (List.range N).find? q = some m := by
    rw [List.find?_range_eq_some]
    exact ⟨h, by simpa using hm, fun j hj => by simp [hl j hj]⟩
  rw [h1]; rfl
noncomputable def routeM (n : Nt) (p : Pty) (frm start dst arr : Int) : Nat := firstK (fun k => nth (stepF n p frm start k) dst.toNat == arr) n.places.toNat
end Go.Proofs.Ytnjlpkdpmbpblaa
namespace Go.Proofs.Ytnjlpkdpmbpblaa.L
open Go.RowKit Go.Proofs.YtnjlpkdpmbpblaaW.PrintWords
noncomputable def paths_Route.f (a0_0 : Int) (l0_1 : List S34) (a1_0 a1_1 a1_2 a1_3 a2 a3 a4 : Int) : Option (List Int × Int × Int) :=
  if asked (ntOf a0_0 l0_1) (ptyOf a1_0 a1_1 a1_2 a1_3) a2 ∧ (0 ≤ a3 ∧ a3 ≤ 2880) ∧ 0 ≤ a4 ∧ a4 ≤ a0_0 - 1 then
    (if nth (arrL (ntOf a0_0 l0_1) (ptyOf a1_0 a1_1 a1_2 a1_3) true (-1) a2 a3) a4.toNat = neverN then some ([], 0, 3) else
      some ((trk (ntOf a0_0 l0_1) (ptyOf a1_0 a1_1 a1_2 a1_3) a4 (nth (arrL (ntOf a0_0 l0_1) (ptyOf a1_0 a1_1 a1_2 a1_3) true (-1) a2 a3) a4.toNat) a2 a3
          (routeM (ntOf a0_0 l0_1) (ptyOf a1_0 a1_1 a1_2 a1_3) a2 a3 a4 (nth (arrL (ntOf a0_0 l0_1) (ptyOf a1_0 a1_1 a1_2 a1_3) true (-1) a2 a3) a4.toNat))
          (routeM (ntOf a0_0 l0_1) (ptyOf a1_0 a1_1 a1_2 a1_3) a2 a3 a4 (nth (arrL (ntOf a0_0 l0_1) (ptyOf a1_0 a1_1 a1_2 a1_3) true (-1) a2 a3) a4.toNat))).route,
        nth (arrL (ntOf a0_0 l0_1) (ptyOf a1_0 a1_1 a1_2 a1_3) true (-1) a2 a3) a4.toNat, 0)) else none
theorem paths_Route.calls (a0_0 : Int) (A0_1 : Option Addr) (c0_1 : Nat) (l0_1 : List (S34)) (a1_0 : Int) (a1_1 : Int) (a1_2 : Int) (a1_3 : Int) (a2 : Int) (a3 : Int) (a4 : Int) (r1 : List Int) (r2 : Int) (r3 : Int) (w : World)
    (hr0_1 : Kd.C k34 w A0_1 l0_1.length l0_1) (_hc0_1 : l0_1.length ≤ c0_1) (h : paths_Route.f a0_0 l0_1 a1_0 a1_1 a1_2 a1_3 a2 a3 a4 = some (r1, r2, r3)) :
    Calls Try.prog 14 #[.agg #[.int .i64 a0_0, .slice A0_1 l0_1.length c0_1], .agg #[.int .i64 a1_0, .int .i64 a1_1, .int .i64 a1_2, .int .i64 a1_3], .int .i64 a2, .int .i64 a3, .int .i64 a4] w fun e w' => ∃ v0_ : Value, e = .returned (.tuple #[v0_, .int .i64 r2, .int .i64 r3]) ∧
      Kd.R (Kd.int .i64) 3 w' w.heap.size (fun _ => True) v0_ r1 ∧ Below w.heap.size w w' := by
  unfold paths_Route.f at h
  split at h
  · rename_i hc
    obtain ⟨⟨hok, hpk, hf⟩, hs, ht⟩ := hc
    obtain ⟨B, C, hp⟩ := pths_of hr0_1
    have hk := paths_Route (ntOf a0_0 l0_1) (ptyOf a1_0 a1_1 a1_2 a1_3) a2 a3 a4 A0_1 B C c0_1 w hp hok hpk hf hs ht (found hok hpk hf hs ht)
    have hlen : (ntOf a0_0 l0_1).paths.length = l0_1.length := by simp [ntOf]
    simp only [vNt, vPty, hlen] at hk
    refine hk.mono ?_
    rintro e w' ⟨l, ha, hx, hcase⟩
    rw [arrL_eq ha] at h
    rcases hcase with ⟨hn, rfl⟩ | ⟨hn, m, D, cap, hm, hm1, hm2, hown, rfl⟩
    · rw [if_pos hn] at h
      simp only [Option.some.injEq, Prod.mk.injEq] at h
      obtain ⟨rfl, rfl, rfl⟩ := h
      exact ⟨_, rfl, Kd.R_nil _ _ _ _ _, hx⟩
    · rw [if_neg hn] at h
      simp only [Option.some.injEq, Prod.mk.injEq] at h
      obtain ⟨rfl, rfl, rfl⟩ := h
      have hM : routeM (ntOf a0_0 l0_1) (ptyOf a1_0 a1_1 a1_2 a1_3) a2 a3 a4 (nth l a4.toNat) = m := firstK_eq hm (by simp [hm1]) (fun j hj => by simpa using hm2 j hj)
      rw [hM]
      exact ⟨_, rfl, r_of_owns hown (Nat.le_refl _) (fun _ _ => trivial), hx⟩
  · cases h
end Go.Proofs.Ytnjlpkdpmbpblaa.L
