/- Walks: slices.IndexFunc over Row: whatever function is handed in that only reads. Conditions: the slice reads, the function answers at each element. -/
import Derived.Test.YtnjlpkdpmbpblaaProg
import Derived.Test.YtnjlpkdpmbpblaaGa
set_option linter.unusedVariables false
set_option linter.unusedSimpArgs false
namespace Go.Proofs.Ytnjlpkdpmbpblaa
open Go.RowKit
set_option maxHeartbeats 400000 in
theorem indexFunc_Row (A : Option Addr) (n c : Nat) (f : Nat → Nat → Value) (F : FuncId) (cap : Array Value) (p : Nat → Bool) (w : World) (hs : Sl w A n 1 f) (hn : n ≤ 4611686018427387904)
    (hent : ∀ args w, (callFunc F args).run Try.prog w = .ok (.enter F args) w)
    (hf : ∀ k, k < n → ∀ W, Ext w W → Calls Try.prog F (#[f k 0] ++ cap) W fun e w' => e = .returned (.bool (p k)) ∧ Ext W w') :
    Calls Try.prog 38 #[.slice A n c, .func (.func F) #[] cap] w (IdxPost w p n) := by
  go_enter Try.func38, Try.ntmps38
  go_wp2
  go_loopw [8] (fun v8 wr => ∃ k : Nat, k ≤ n ∧ v8 = .int .i64 k ∧ (∀ j, j < k → p j = false) ∧ Ext w wr) (fun v8 _ => n - (intOf v8).toNat)
  case atStart => exact ⟨0, by omega, rfl, by omega, Ext.refl _⟩
  case round =>
    obtain ⟨k, hk, rfl, hj, hx⟩ := hrel
    have HJ := Lib.hid hj
    clear hj
    by_cases hlt : k < n
    · obtain ⟨pA, hc⟩ := hs.ever (by omega)
      have c0 := hs.ever1 (by omega) k hlt
      have hF := hf k hlt wr hx
      have HF := Lib.hid hF
      clear hF hc hf hs
      by_cases hp : p k = true
      · go_wp2_with fail
        refine (HF.out).mono ?_
        rintro e w1 ⟨rfl, hy⟩
        go_wp2
        go_ret
        exact ⟨_, rfl, .inr ⟨k, hlt, rfl, hp, HJ.out⟩, hx.trans hy⟩
      · have hp' : p k = false := by simpa using hp
        go_wp2_with fail
        refine (HF.out).mono ?_
        rintro e w1 ⟨rfl, hy⟩
        go_wp2
        go_roundw
        case rel =>
          refine ⟨k + 1, by omega, by go_num, fun j hj => ?_, hx.trans hy⟩
          by_cases e : j = k
          · subst e; exact hp'
          · exact HJ.out j (by omega)
        case measure => simp [intOf]; omega
    · go_wp2
      go_ret
      refine ⟨_, rfl, .inl ⟨rfl, fun j hj => HJ.out j (by omega)⟩, hx⟩
end Go.Proofs.Ytnjlpkdpmbpblaa
