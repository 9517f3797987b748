/- paths.Arrive in the printed texts' words. Conditions: the net's paths read as a list; net, party, place and minute are valid (else the plain function says nothing). -/
import Derived.Test.YtnjlpkdpmbpblaaBridge
import Derived.Test.YtnjlpkdpmbpblaaGc
set_option linter.unusedVariables false
set_option linter.unusedSimpArgs false
namespace Go.Proofs.Ytnjlpkdpmbpblaa
section
variable {n : Nt} {p : Pty} {hi : Bool} {but frm start : Int}
theorem rounds_stay {l : List Int} {k : Nat} (h : round n p hi but (rounds n p hi but l k) = rounds n p hi but l k) : ∀ d, rounds n p hi but l (k + d) = rounds n p hi but l k
  | 0 => rfl
  | d + 1 => by rw [← Nat.add_assoc, rounds, rounds_stay h d, h]
theorem arr_unique {l m : List Int} (h : Arr n p hi but frm start l) (h' : Arr n p hi but frm start m) : l = m := by
  obtain ⟨⟨a, rfl⟩, ha⟩ := h
  obtain ⟨⟨b, rfl⟩, hb⟩ := h'
  by_cases e : a ≤ b
  · obtain ⟨d, rfl⟩ : ∃ d, b = a + d := ⟨b - a, by omega⟩
    exact (rounds_stay ha d).symm
  · obtain ⟨d, rfl⟩ : ∃ d, a = b + d := ⟨a - b, by omega⟩
    exact rounds_stay hb d
end
open Classical in
/-- the arrivals: the one row that a further round does not turn -/
noncomputable def arrL (n : Nt) (p : Pty) (hi : Bool) (but frm start : Int) : List Int := if h : ∃ l, Arr n p hi but frm start l then h.choose else []
theorem arrL_eq {n : Nt} {p : Pty} {hi : Bool} {but frm start : Int} {l : List Int} (h : Arr n p hi but frm start l) : arrL n p hi but frm start = l := by
  unfold arrL
  rw [dif_pos ⟨l, h⟩]
  exact arr_unique (Exists.choose_spec _) h
def ptyOf (g l lo hi : Int) : Pty := ⟨g, l, ⟨lo, hi⟩⟩
/-- what the contracts ask of a net, a party and a place -/
def asked (n : Nt) (p : Pty) (x : Int) : Prop := netOk n = true ∧ partyOk p = true ∧ 0 ≤ x ∧ x ≤ n.places - 1
instance (n : Nt) (p : Pty) (x : Int) : Decidable (asked n p x) := by unfold asked; infer_instance
end Go.Proofs.Ytnjlpkdpmbpblaa
namespace Go.Proofs.Ytnjlpkdpmbpblaa.L
open Go.RowKit Go.Proofs.YtnjlpkdpmbpblaaW.PrintWords
noncomputable def paths_Arrive.f (a0_0 : Int) (l0_1 : List S34) (a1_0 a1_1 a1_2 a1_3 a2 a3 : Int) : Option (List Int × List Int × Int) :=
  if asked (ntOf a0_0 l0_1) (ptyOf a1_0 a1_1 a1_2 a1_3) a2 ∧ 0 ≤ a3 ∧ a3 ≤ 2880 then
    some (toldL (arrL (ntOf a0_0 l0_1) (ptyOf a1_0 a1_1 a1_2 a1_3) true (-1) a2 a3), toldL (arrL (ntOf a0_0 l0_1) (ptyOf a1_0 a1_1 a1_2 a1_3) false (-1) a2 a3), 0) else none
theorem paths_Arrive.calls (a0_0 : Int) (A0_1 : Option Addr) (c0_1 : Nat) (l0_1 : List (S34)) (a1_0 : Int) (a1_1 : Int) (a1_2 : Int) (a1_3 : Int) (a2 : Int) (a3 : Int) (r1 : List Int) (r2 : List Int) (r3 : Int) (w : World)
    (hr0_1 : Kd.C k34 w A0_1 l0_1.length l0_1) (_hc0_1 : l0_1.length ≤ c0_1) (h : paths_Arrive.f a0_0 l0_1 a1_0 a1_1 a1_2 a1_3 a2 a3 = some (r1, r2, r3)) :
    Calls Try.prog 8 #[.agg #[.int .i64 a0_0, .slice A0_1 l0_1.length c0_1], .agg #[.int .i64 a1_0, .int .i64 a1_1, .int .i64 a1_2, .int .i64 a1_3], .int .i64 a2, .int .i64 a3] w fun e w' => ∃ v0_ v1_ : Value, e = .returned (.tuple #[v0_, v1_, .int .i64 r3]) ∧
      Kd.R (Kd.int .i64) 3 w' w.heap.size (fun k_ => some k_ ≠ (v1_ : Value).ownBlock) v0_ r1 ∧ Kd.R (Kd.int .i64) 3 w' w.heap.size (fun k_ => some k_ ≠ (v0_ : Value).ownBlock) v1_ r2 ∧ Below w.heap.size w w' := by
  unfold paths_Arrive.f at h
  split at h
  · rename_i hc
    obtain ⟨⟨hok, hpk, hf⟩, hs⟩ := hc
    simp only [Option.some.injEq, Prod.mk.injEq] at h
    obtain ⟨rfl, rfl, rfl⟩ := h
    obtain ⟨B, C, hp⟩ := pths_of hr0_1
    have hk := paths_Arrive (ntOf a0_0 l0_1) (ptyOf a1_0 a1_1 a1_2 a1_3) a2 a3 A0_1 B C c0_1 w hp hok hpk hf hs
    have hlen : (ntOf a0_0 l0_1).paths.length = l0_1.length := by simp [ntOf]
    have hpl : (ntOf a0_0 l0_1).places.toNat ≤ 1000 := by have := (netOk_iff.1 hok).1.2; omega
    simp only [vNt, vPty, hlen] at hk
    refine hk.mono ?_
    rintro e w' ⟨b1, b2, l1, l2, rfl, hr1, hr2, ha1, ha2, hx, hne, h1, h2⟩
    rw [arrL_eq ha1, arrL_eq ha2]
    have o1 := owns_of_row hr1 (by rw [toldL_length, ha1.length]; exact hpl)
    have o2 := owns_of_row hr2 (by rw [toldL_length, ha2.length]; exact hpl)
    rw [toldL_length] at o1 o2
    refine ⟨_, _, rfl, r_of_owns (by rw [toldL_length]; exact o1) h1 ?_, r_of_owns (by rw [toldL_length]; exact o2) h2 ?_, hx⟩
    · intro k hk1 hk2
      simp only [Value.ownBlock, Option.some.injEq] at hk1 hk2
      omega
    · intro k hk1 hk2
      simp only [Value.ownBlock, Option.some.injEq] at hk1 hk2
      omega
  · cases h
end Go.Proofs.Ytnjlpkdpmbpblaa.L
