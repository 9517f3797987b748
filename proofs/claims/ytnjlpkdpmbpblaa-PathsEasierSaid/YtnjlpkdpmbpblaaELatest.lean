/- paths.Latest in the printed texts' words. Conditions: the net's paths read as a list; net, party, places and minute are valid (else the plain function says nothing). -/
import Derived.Test.YtnjlpkdpmbpblaaEArrive
import Derived.Test.YtnjlpkdpmbpblaaGc
set_option linter.unusedVariables false
set_option linter.unusedSimpArgs false
namespace Go.Proofs.Ytnjlpkdpmbpblaa
section
variable {n : Nt} {p : Pty} {dst by_ : Int}
theorem dRounds_stay {l : List Int} {k : Nat} (h : dRound n p (dRounds n p l k) = dRounds n p l k) : ∀ d, dRounds n p l (k + d) = dRounds n p l k
  | 0 => rfl
  | d + 1 => by rw [← Nat.add_assoc, dRounds, dRounds_stay h d, h]
theorem dead_unique {l m : List Int} (h : Dead n p dst by_ l) (h' : Dead n p dst by_ m) : l = m := by
  obtain ⟨⟨a, rfl⟩, ha⟩ := h
  obtain ⟨⟨b, rfl⟩, hb⟩ := h'
  by_cases e : a ≤ b
  · obtain ⟨d, rfl⟩ : ∃ d, b = a + d := ⟨b - a, by omega⟩
    exact (dRounds_stay ha d).symm
  · obtain ⟨d, rfl⟩ : ∃ d, a = b + d := ⟨a - b, by omega⟩
    exact dRounds_stay hb d
end
open Classical in
/-- the deadlines: the one row that a further round does not turn -/
noncomputable def deadL (n : Nt) (p : Pty) (dst by_ : Int) : List Int := if h : ∃ l, Dead n p dst by_ l then h.choose else []
theorem deadL_eq {n : Nt} {p : Pty} {dst by_ : Int} {l : List Int} (h : Dead n p dst by_ l) : deadL n p dst by_ = l := by
  unfold deadL
  rw [dif_pos ⟨l, h⟩]
  exact dead_unique (Exists.choose_spec _) h
end Go.Proofs.Ytnjlpkdpmbpblaa
namespace Go.Proofs.Ytnjlpkdpmbpblaa.L
open Go.RowKit Go.Proofs.YtnjlpkdpmbpblaaW.PrintWords
noncomputable def paths_Latest.f (a0_0 : Int) (l0_1 : List S34) (a1_0 a1_1 a1_2 a1_3 a2 a3 a4 : Int) : Option (Int × Int) :=
  if asked (ntOf a0_0 l0_1) (ptyOf a1_0 a1_1 a1_2 a1_3) a2 ∧ (0 ≤ a3 ∧ a3 ≤ a0_0 - 1) ∧ 0 ≤ a4 ∧ a4 ≤ 2880 then
    some (if nth (deadL (ntOf a0_0 l0_1) (ptyOf a1_0 a1_1 a1_2 a1_3) a3 a4) a2.toNat = -1 then 0 else nth (deadL (ntOf a0_0 l0_1) (ptyOf a1_0 a1_1 a1_2 a1_3) a3 a4) a2.toNat,
      if nth (deadL (ntOf a0_0 l0_1) (ptyOf a1_0 a1_1 a1_2 a1_3) a3 a4) a2.toNat = -1 then 3 else 0) else none
theorem paths_Latest.calls (a0_0 : Int) (A0_1 : Option Addr) (c0_1 : Nat) (l0_1 : List (S34)) (a1_0 : Int) (a1_1 : Int) (a1_2 : Int) (a1_3 : Int) (a2 : Int) (a3 : Int) (a4 : Int) (r1 : Int) (r2 : Int) (w : World)
    (hr0_1 : Kd.C k34 w A0_1 l0_1.length l0_1) (_hc0_1 : l0_1.length ≤ c0_1) (h : paths_Latest.f a0_0 l0_1 a1_0 a1_1 a1_2 a1_3 a2 a3 a4 = some (r1, r2)) :
    Calls Try.prog 25 #[.agg #[.int .i64 a0_0, .slice A0_1 l0_1.length c0_1], .agg #[.int .i64 a1_0, .int .i64 a1_1, .int .i64 a1_2, .int .i64 a1_3], .int .i64 a2, .int .i64 a3, .int .i64 a4] w fun e w' => e = .returned (.tuple #[.int .i64 r1, .int .i64 r2]) ∧ Below w.heap.size w w' := by
  unfold paths_Latest.f at h
  split at h
  · rename_i hc
    obtain ⟨⟨hok, hpk, hf⟩, ht, hs⟩ := hc
    obtain ⟨B, C, hp⟩ := pths_of hr0_1
    have hk := paths_Latest (ntOf a0_0 l0_1) (ptyOf a1_0 a1_1 a1_2 a1_3) a2 a3 a4 A0_1 B C c0_1 w hp hok hpk hf ht hs
    have hlen : (ntOf a0_0 l0_1).paths.length = l0_1.length := by simp [ntOf]
    simp only [vNt, vPty, hlen] at hk
    refine hk.mono ?_
    rintro e w' ⟨l, ha, hx, rfl⟩
    rw [deadL_eq ha] at h
    simp only [Option.some.injEq, Prod.mk.injEq] at h
    obtain ⟨rfl, rfl⟩ := h
    exact ⟨rfl, hx⟩
  · cases h
end Go.Proofs.Ytnjlpkdpmbpblaa.L
