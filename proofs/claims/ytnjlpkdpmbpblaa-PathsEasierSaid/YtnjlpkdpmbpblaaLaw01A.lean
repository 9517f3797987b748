/- Walks: bivouaclaw01.Far, bivouaclaw01.fits. Each returns what the plain function of the same make says. Conditions: the slices read as lists. -/
import Derived.Test.YtnjlpkdpmbpblaaGa
set_option linter.unusedVariables false
set_option linter.unusedSimpArgs false
namespace Go.Proofs.Ytnjlpkdpmbpblaa
open Go.RowKit Go.Shelf
def farB (n : Nt) : Bool := decide (26 < n.paths.length) || (n.paths.any (fun x => decide (8 < x.opens.length)) || (netOk n && (decide ((6 : Int) < n.places) || decide (10 < n.paths.length))))
theorem farB_long {n : Nt} (h : 26 < n.paths.length) : farB n = true := by simp [farB, h]
theorem farB_wide {n : Nt} {k : Nat} (hk : k < n.paths.length) (h : 8 < (nth n.paths k).opens.length) : farB n = true := by
  have h1 : n.paths.any (fun x => decide (8 < x.opens.length)) = true := List.any_eq_true.2 ⟨nth n.paths k, nth_mem hk, by simpa using h⟩
  simp [farB, h1]
theorem farB_else {n : Nt} (h : n.paths.length ≤ 26) (h2 : ∀ j, j < n.paths.length → (nth n.paths j).opens.length ≤ 8) : farB n = (netOk n && (decide ((6 : Int) < n.places) || decide (10 < n.paths.length))) := by
  have h1 : n.paths.any (fun x => decide (8 < x.opens.length)) = false := by
    rw [List.any_eq_false]
    intro x hx
    obtain ⟨k, hk, rfl⟩ := List.getElem_of_mem hx
    have := h2 k hk
    rw [nth_eq hk] at this
    simp; omega
  have h3 : decide (26 < n.paths.length) = false := by simp; omega
  rw [farB, h1, h3]; simp
set_option maxHeartbeats 1000000 in
theorem law01_Far (n : Nt) (A : Option Addr) (B : Nat → Option Addr) (C : Nat → Nat) (c : Nat) (w : World) (hn : Pths w A B C n.paths) :
    Calls Try.prog 23 #[vNt n A c] w fun e w' => e = .returned (.bool (farB n)) ∧ Ext w w' := by
  obtain ⟨W0, hW0⟩ : ∃ W0, w.alloc (.cells #[.int .i64 n.places, .slice A n.paths.length c] 24) = W0 := ⟨_, rfl⟩
  have hw0 : Ext w W0 := hW0 ▸ (Ext.refl w).alloc _
  have b0 : ∀ W, Ext W0 W → W.cell? ⟨w.heap.size, 0, none⟩ = some (.int .i64 n.places) := fun W h => by rw [(hW0 ▸ h : Ext _ W).box 0]; rfl
  have b1 : ∀ W, Ext W0 W → W.cell? ⟨w.heap.size, 1, none⟩ = some (.slice A n.paths.length c) := fun W h => by rw [(hW0 ▸ h : Ext _ W).box 1]; rfl
  have HN := Lib.hid (hn.ext hw0)
  clear hn
  dsimp only [vNt]
  by_cases h1 : n.paths.length ≤ 26
  · have h1' : decide ((26 : Int) < n.paths.length) = false := by simp; omega
    go_enter Try.func23, Try.ntmps23
    go_wp2_with fail
    go_loop [3] (fun v3 => ∃ k : Nat, k ≤ n.paths.length ∧ v3 = .int .i64 k ∧ ∀ j, j < k → (nth n.paths j).opens.length ≤ 8) (fun v3 => n.paths.length - (intOf v3).toNat)
    case atStart => exact ⟨0, by omega, rfl, by omega⟩
    case round =>
      obtain ⟨k, hk, rfl, hj⟩ := hrel
      have HJ := Lib.hid hj
      clear hj
      by_cases hlt : k < n.paths.length
      · obtain ⟨pA, ⟨c0, c1, c2, c3, c4, c5, c6, c7⟩⟩ := HN.out.at_ hlt
        clear c0 c1 c2 c3 c4 c5 c6
        by_cases ho : (nth n.paths k).opens.length ≤ 8
        · have ho' : decide ((8 : Int) < (nth n.paths k).opens.length) = false := by simp; omega
          go_wp2
          go_round
          case rel =>
            refine ⟨k + 1, by omega, by go_num, fun j hj' => ?_⟩
            by_cases e : j = k
            · subst e; exact ho
            · exact HJ.out j (by omega)
          case measure => simp [intOf]; omega
        · have ho' : decide ((8 : Int) < (nth n.paths k).opens.length) = true := by simp; omega
          have HB := Lib.hid (farB_wide hlt (by omega))
          go_wp2
          go_ret
          exact ⟨ret_bool HB.out.symm, hw0⟩
      · have hk' : k = n.paths.length := by omega
        subst hk'
        have HE := Lib.hid (farB_else h1 HJ.out)
        have hcc := ref01_Check n A B C c W0 HN.out
        have HC := Lib.hid hcc
        clear hcc
        by_cases hok : netOk n = true
        · have HO := Lib.hid hok
          clear hok
          go_wp2_with fail
          refine HC.out.mono ?_
          rintro e w1 ⟨rfl, hx1⟩
          rw [HO.out, show okErr true 10 = 0 from rfl]
          by_cases h6 : (6 : Int) < n.places
          · have h6' : decide ((6 : Int) < n.places) = true := decide_eq_true h6
            go_wp2
            go_ret
            exact ⟨ret_bool (by rw [HE.out, HO.out, h6']; rfl), hw0.trans hx1⟩
          · have h6' : decide ((6 : Int) < n.places) = false := decide_eq_false h6
            go_wp2
            go_ret
            refine ⟨ret_bool ?_, hw0.trans hx1⟩
            rw [HE.out, HO.out, h6']
            simp
            omega
        · have hok' : netOk n = false := by simpa using hok
          have HO := Lib.hid hok'
          clear hok hok'
          go_wp2_with fail
          refine HC.out.mono ?_
          rintro e w1 ⟨rfl, hx1⟩
          rw [HO.out, show okErr false 10 = 10 from rfl]
          go_wp2
          go_ret
          exact ⟨ret_bool (by rw [HE.out, HO.out]; rfl), hw0.trans hx1⟩
  · have h1' : decide ((26 : Int) < n.paths.length) = true := by simp; omega
    have HB := Lib.hid (farB_long (n := n) (by omega))
    go_enter Try.func23, Try.ntmps23
    go_wp2
    go_ret
    exact ⟨ret_bool HB.out.symm, hw0⟩
structure Trp where
  frm : Int
  dst : Int
  start : Int
  dead : Int
  path : Int
def vTrp (x : Trp) (A : Option Addr) (len c : Nat) : Value := .agg #[.int .i64 x.frm, .int .i64 x.dst, .int .i64 x.start, .int .i64 x.dead, .slice A len c, .int .i64 x.path]
def fitsB (n : Nt) (p : Pty) (x : Trp) : Bool := !farB n && (npErr n p == 0 && (within x.frm 0 (n.places - 1) && (within x.dst 0 (n.places - 1) && (within x.start 0 2880 && within x.dead 0 2880))))
set_option maxHeartbeats 1000000 in
theorem law01_fits (n : Nt) (p : Pty) (x : Trp) (A Ar : Option Addr) (B : Nat → Option Addr) (C : Nat → Nat) (c lr cr : Nat) (w : World) (hn : Pths w A B C n.paths) :
    Calls Try.prog 6 #[vNt n A c, vPty p, vTrp x Ar lr cr] w fun e w' => e = .returned (.bool (fitsB n p x)) ∧ Ext w w' := by
  dsimp only [vTrp]
  obtain ⟨W0, hW0⟩ : ∃ W0, ((w.alloc (.cells #[.int .i64 n.places, .slice A n.paths.length c] 24)).alloc (.cells #[.int .i64 p.grade, .int .i64 p.load, .int .i64 p.pace.lo, .int .i64 p.pace.hi] 28)).alloc (.cells #[.int .i64 x.frm, .int .i64 x.dst, .int .i64 x.start, .int .i64 x.dead, .slice Ar lr cr, .int .i64 x.path] 31) = W0 := ⟨_, rfl⟩
  have hw0 : Ext w W0 := hW0 ▸ (((Ext.refl w).alloc _).alloc _).alloc _
  have b : ∀ W9 j, Ext W0 W9 → W9.cell? ⟨w.heap.size, j, none⟩ = (#[.int .i64 n.places, .slice A n.paths.length c] : Array Value)[j]? := fun W9 j h => by rw [h.cell (by rw [← hW0]; simp only [World.size_alloc]; omega), ← hW0]; simp [go_sem]
  have d : ∀ W9 j, Ext W0 W9 → W9.cell? ⟨w.heap.size + 1, j, none⟩ = (#[.int .i64 p.grade, .int .i64 p.load, .int .i64 p.pace.lo, .int .i64 p.pace.hi] : Array Value)[j]? := fun W9 j h => by rw [h.cell (by rw [← hW0]; simp only [World.size_alloc]; omega), ← hW0]; simp [go_sem]
  have f : ∀ W9 j, Ext W0 W9 → W9.cell? ⟨w.heap.size + 1 + 1, j, none⟩ = (#[.int .i64 x.frm, .int .i64 x.dst, .int .i64 x.start, .int .i64 x.dead, .slice Ar lr cr, .int .i64 x.path] : Array Value)[j]? := fun W9 j h => by rw [h.cell (by rw [← hW0]; simp only [World.size_alloc]; omega), ← hW0]; simp [go_sem]
  have hfar := law01_Far n A B C c W0 (hn.ext hw0)
  have hcp : ∀ W, Ext W0 W → Calls Try.prog 19 #[vNt n A c, vPty p] W fun e w' => e = .returned (.int .i64 (npErr n p)) ∧ Ext W w' := fun W h => ref01_CheckParty n p A B C c W (hn.ext (hw0.trans h))
  have HF := Lib.hid hfar
  have HCP := Lib.hid hcp
  clear hfar hcp hn
  dsimp only [vNt, vPty]
  by_cases h1 : farB n = true
  · have H1 := Lib.hid h1
    clear h1
    go_enter Try.func6, Try.ntmps6
    go_wp2_with fail
    refine HF.out.mono ?_
    rintro e w1 ⟨rfl, hx1⟩
    rw [H1.out]
    go_wp2
    go_ret
    exact ⟨ret_bool (by rw [fitsB, H1.out]; rfl), hw0.trans hx1⟩
  · have h1' : farB n = false := by simpa using h1
    have H1 := Lib.hid h1'
    clear h1 h1'
    by_cases h2 : npErr n p = 0
    · have hpl := (netOk_iff.1 (npErr_zero.1 h2).1).1
      obtain ⟨hp1, hp2⟩ := hpl
      have H2 := Lib.hid h2
      clear h2
      go_enter Try.func6, Try.ntmps6
      go_wp2_with fail
      refine HF.out.mono ?_
      rintro e w1 ⟨rfl, hx1⟩
      rw [H1.out]
      go_wp2_with fail
      refine (HCP.out _ hx1).mono ?_
      rintro e w2 ⟨rfl, hx2⟩
      rw [H2.out]
      have hx12 : Ext W0 w2 := hx1.trans hx2
      clear HF HCP hx1 hx2
      go_wp2_with (first
        | (go_at_call 12; refine (ref01_IsPlace n A c _ _ (by omega) (by omega)).mono ?_; rintro e w3 ⟨rfl, hy1⟩; have hz1 : Ext W0 w3 := Ext.trans (by assumption) hy1; clear hy1)
        | (go_at_call 20; refine (ref01_IsMinute _ _).mono ?_; rintro e w3 ⟨rfl, rfl⟩))
      all_goals go_ret
      all_goals refine ⟨ret_bool ?_, hw0.trans (by assumption)⟩
      all_goals rw [fitsB, H1.out, H2.out]
      all_goals simp [*]
    · have h2' : (npErr n p == 0) = false := by simpa using h2
      have H2 := Lib.hid h2'
      have h2n : npErr n p ≠ 0 := h2
      clear h2'
      go_enter Try.func6, Try.ntmps6
      go_wp2_with fail
      refine HF.out.mono ?_
      rintro e w1 ⟨rfl, hx1⟩
      rw [H1.out]
      go_wp2_with fail
      refine (HCP.out _ hx1).mono ?_
      rintro e w2 ⟨rfl, hx2⟩
      have h3 := H2.out
      go_wp2
      go_ret
      exact ⟨ret_bool (by rw [fitsB, H1.out, H2.out]; rfl), hw0.trans (hx1.trans hx2)⟩
end Go.Proofs.Ytnjlpkdpmbpblaa
