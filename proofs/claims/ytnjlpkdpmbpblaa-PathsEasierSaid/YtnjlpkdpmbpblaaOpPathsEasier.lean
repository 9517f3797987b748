/- How the arguments of bivouac/bivouaclaw01.PathsEasier open; what its walk has to show. Printed by a program of the session. Conditions: none. -/
import Derived.Test.YtnjlpkdpmbpblaaOpen
import Derived.Test.YtnjlpkdpmbpblaaLx0
set_option linter.unusedVariables false
set_option linter.unusedSimpArgs false
namespace Go.Proofs.Ytnjlpkdpmbpblaa.PathsEasierOp
open Go.RowKit Go.Proofs.Ytnjlpkdpmbpblaa Go.Proofs.YtnjlpkdpmbpblaaW.PrintWords
theorem cl24 : Try.prog.cellsOf 24 = 2 := by kernel_rfl
theorem cl3 : Try.prog.cellsOf 3 = 1 := by kernel_rfl
theorem op3 : Opens Try.prog (Kd.int .i64) 3 (fun a => (Lit.int .i64 a).wf = true) := opens_int Try.underlying3
theorem cl22 : Try.prog.cellsOf 22 = 1 := by kernel_rfl
theorem cl34 : Try.prog.cellsOf 34 = 8 := by kernel_rfl
theorem cl26 : Try.prog.cellsOf 26 = 2 := by kernel_rfl
def G26 (x : L.S26) : Prop := (Lit.int .i64 x.f0).wf = true ∧ ((Lit.int .i64 x.f1).wf = true)
theorem op26 : Opens Try.prog L.k26 26 G26 := fun enc w base spare held fuel cs x h => by
  have h0 := (opens_struct (d := _) (g := fun x : L.S26 => (x.f0, x.f1)) (g' := fun a => ⟨a.1, a.2⟩) Try.underlying26 cl26 (fun _ => rfl) (opensF_cons (f := ⟨"Low", 3, 0, false, "", "", 0⟩) (lo := 0) (mid := 1) (hi := 2) op3 rfl cl3 rfl (opensF_one (f := ⟨"High", 3, 1, false, "", "", 8⟩) (lo := 1) (hi := 2) op3 rfl cl3 rfl))) enc w base spare held fuel cs x h
  obtain ⟨a, h1, h2⟩ := h0
  exact ⟨a, h1, h2⟩
theorem cl32 : Try.prog.cellsOf 32 = 1 := by kernel_rfl
def G32 (y : L.S26) : Prop := G26 y
theorem op32 : Opens Try.prog (Kd.slice 26 L.k26) 32 (fun l => l.length ≤ maxLen ∧ ∀ y ∈ l, G32 y) := opens_slice Try.underlying32 (by kernel_rfl) op26
def G34 (x : L.S34) : Prop := (Lit.int .i64 x.f0).wf = true ∧ ((Lit.int .i64 x.f1).wf = true ∧ ((Lit.int .i64 x.f2).wf = true ∧ (G26 x.f3 ∧ (G26 x.f4 ∧ ((x.f5.length ≤ maxLen ∧ ∀ y ∈ x.f5, G32 y))))))
theorem op34 : Opens Try.prog L.k34 34 G34 := fun enc w base spare held fuel cs x h => by
  have h0 := (opens_struct (d := _) (g := fun x : L.S34 => (x.f0, x.f1, x.f2, x.f3, x.f4, x.f5)) (g' := fun a => ⟨a.1, a.2.1, a.2.2.1, a.2.2.2.1, a.2.2.2.2.1, a.2.2.2.2.2⟩) Try.underlying34 cl34 (fun _ => rfl) (opensF_cons (f := ⟨"From", 3, 0, false, "", "", 0⟩) (lo := 0) (mid := 1) (hi := 8) op3 rfl cl3 rfl (opensF_cons (f := ⟨"To", 3, 1, false, "", "", 8⟩) (lo := 1) (mid := 2) (hi := 8) op3 rfl cl3 rfl (opensF_cons (f := ⟨"Grade", 3, 2, false, "", "", 16⟩) (lo := 2) (mid := 3) (hi := 8) op3 rfl cl3 rfl (opensF_cons (f := ⟨"Time", 26, 3, false, "", "", 24⟩) (lo := 3) (mid := 5) (hi := 8) op26 rfl cl26 rfl (opensF_cons (f := ⟨"Snow", 26, 5, false, "", "", 40⟩) (lo := 5) (mid := 7) (hi := 8) op26 rfl cl26 rfl (opensF_one (f := ⟨"Opens", 32, 7, false, "", "", 56⟩) (lo := 7) (hi := 8) op32 rfl cl32 rfl))))))) enc w base spare held fuel cs x h
  obtain ⟨a, h1, h2⟩ := h0
  exact ⟨a, h1, h2⟩
def G22 (y : L.S34) : Prop := G34 y
theorem op22 : Opens Try.prog (Kd.slice 34 L.k34) 22 (fun l => l.length ≤ maxLen ∧ ∀ y ∈ l, G22 y) := opens_slice Try.underlying22 (by kernel_rfl) op34
def G24 (x : L.S24) : Prop := (Lit.int .i64 x.f0).wf = true ∧ ((x.f1.length ≤ maxLen ∧ ∀ y ∈ x.f1, G22 y))
theorem op24 : Opens Try.prog L.k24 24 G24 := fun enc w base spare held fuel cs x h => by
  have h0 := (opens_struct (d := _) (g := fun x : L.S24 => (x.f0, x.f1)) (g' := fun a => ⟨a.1, a.2⟩) Try.underlying24 cl24 (fun _ => rfl) (opensF_cons (f := ⟨"Places", 3, 0, false, "", "", 0⟩) (lo := 0) (mid := 1) (hi := 2) op3 rfl cl3 rfl (opensF_one (f := ⟨"Paths", 22, 1, false, "", "", 8⟩) (lo := 1) (hi := 2) op22 rfl cl22 rfl))) enc w base spare held fuel cs x h
  obtain ⟨a, h1, h2⟩ := h0
  exact ⟨a, h1, h2⟩
theorem cl28 : Try.prog.cellsOf 28 = 4 := by kernel_rfl
def G28 (x : L.S28) : Prop := (Lit.int .i64 x.f0).wf = true ∧ ((Lit.int .i64 x.f1).wf = true ∧ (G26 x.f2))
theorem op28 : Opens Try.prog L.k28 28 G28 := fun enc w base spare held fuel cs x h => by
  have h0 := (opens_struct (d := _) (g := fun x : L.S28 => (x.f0, x.f1, x.f2)) (g' := fun a => ⟨a.1, a.2.1, a.2.2⟩) Try.underlying28 cl28 (fun _ => rfl) (opensF_cons (f := ⟨"Grade", 3, 0, false, "", "", 0⟩) (lo := 0) (mid := 1) (hi := 4) op3 rfl cl3 rfl (opensF_cons (f := ⟨"Load", 3, 1, false, "", "", 8⟩) (lo := 1) (mid := 2) (hi := 4) op3 rfl cl3 rfl (opensF_one (f := ⟨"Pace", 26, 2, false, "", "", 16⟩) (lo := 2) (hi := 4) op26 rfl cl26 rfl)))) enc w base spare held fuel cs x h
  obtain ⟨a, h1, h2⟩ := h0
  exact ⟨a, h1, h2⟩
theorem cl31 : Try.prog.cellsOf 31 = 6 := by kernel_rfl
theorem cl29 : Try.prog.cellsOf 29 = 1 := by kernel_rfl
def G29 (y : Int) : Prop := (Lit.int .i64 y).wf = true
theorem op29 : Opens Try.prog (Kd.slice 3 (Kd.int .i64)) 29 (fun l => l.length ≤ maxLen ∧ ∀ y ∈ l, G29 y) := opens_slice Try.underlying29 (by kernel_rfl) op3
structure SS31 where
  f0 : Int
  f1 : Int
  f2 : Int
  f3 : Int
  f4 : (List Int)
  f5 : Int
def kk31 : Kd SS31 := Kd.iso (Kd.pair (Kd.int .i64) (Kd.pair (Kd.int .i64) (Kd.pair (Kd.int .i64) (Kd.pair (Kd.int .i64) (Kd.pair (Kd.slice 3 (Kd.int .i64)) (Kd.int .i64)))))) (fun x : SS31 => (x.f0, x.f1, x.f2, x.f3, x.f4, x.f5))
def G31 (x : SS31) : Prop := (Lit.int .i64 x.f0).wf = true ∧ ((Lit.int .i64 x.f1).wf = true ∧ ((Lit.int .i64 x.f2).wf = true ∧ ((Lit.int .i64 x.f3).wf = true ∧ ((x.f4.length ≤ maxLen ∧ ∀ y ∈ x.f4, G29 y) ∧ ((Lit.int .i64 x.f5).wf = true)))))
theorem op31 : Opens Try.prog kk31 31 G31 := fun enc w base spare held fuel cs x h => by
  have h0 := (opens_struct (d := _) (g := fun x : SS31 => (x.f0, x.f1, x.f2, x.f3, x.f4, x.f5)) (g' := fun a => ⟨a.1, a.2.1, a.2.2.1, a.2.2.2.1, a.2.2.2.2.1, a.2.2.2.2.2⟩) Try.underlying31 cl31 (fun _ => rfl) (opensF_cons (f := ⟨"From", 3, 0, false, "", "", 0⟩) (lo := 0) (mid := 1) (hi := 6) op3 rfl cl3 rfl (opensF_cons (f := ⟨"To", 3, 1, false, "", "", 8⟩) (lo := 1) (mid := 2) (hi := 6) op3 rfl cl3 rfl (opensF_cons (f := ⟨"Start", 3, 2, false, "", "", 16⟩) (lo := 2) (mid := 3) (hi := 6) op3 rfl cl3 rfl (opensF_cons (f := ⟨"Deadline", 3, 3, false, "", "", 24⟩) (lo := 3) (mid := 4) (hi := 6) op3 rfl cl3 rfl (opensF_cons (f := ⟨"Route", 29, 4, false, "", "", 32⟩) (lo := 4) (mid := 5) (hi := 6) op29 rfl cl29 rfl (opensF_one (f := ⟨"Path", 3, 5, false, "", "", 56⟩) (lo := 5) (hi := 6) op3 rfl cl3 rfl))))))) enc w base spare held fuel cs x h
  obtain ⟨a, h1, h2⟩ := h0
  exact ⟨a, h1, h2⟩
theorem cl36 : Try.prog.cellsOf 36 = 15 := by kernel_rfl
def G36 (x : L.S36) : Prop := (Lit.int .i64 x.f0).wf = true ∧ ((Lit.int .i64 x.f1).wf = true ∧ ((Lit.int .i64 x.f2).wf = true ∧ ((Lit.int .i64 x.f3).wf = true ∧ ((Lit.int .i64 x.f4).wf = true ∧ ((Lit.int .i64 x.f5).wf = true ∧ ((Lit.int .i64 x.f6).wf = true ∧ (G34 x.f7)))))))
theorem op36 : Opens Try.prog L.k36 36 G36 := fun enc w base spare held fuel cs x h => by
  have h0 := (opens_struct (d := _) (g := fun x : L.S36 => (x.f0, x.f1, x.f2, x.f3, x.f4, x.f5, x.f6, x.f7)) (g' := fun a => ⟨a.1, a.2.1, a.2.2.1, a.2.2.2.1, a.2.2.2.2.1, a.2.2.2.2.2.1, a.2.2.2.2.2.2.1, a.2.2.2.2.2.2.2⟩) Try.underlying36 cl36 (fun _ => rfl) (opensF_cons (f := ⟨"Later", 3, 0, false, "", "", 0⟩) (lo := 0) (mid := 1) (hi := 15) op3 rfl cl3 rfl (opensF_cons (f := ⟨"Pace", 3, 1, false, "", "", 8⟩) (lo := 1) (mid := 2) (hi := 15) op3 rfl cl3 rfl (opensF_cons (f := ⟨"Load", 3, 2, false, "", "", 16⟩) (lo := 2) (mid := 3) (hi := 15) op3 rfl cl3 rfl (opensF_cons (f := ⟨"Path", 3, 3, false, "", "", 24⟩) (lo := 3) (mid := 4) (hi := 15) op3 rfl cl3 rfl (opensF_cons (f := ⟨"Grade", 3, 4, false, "", "", 32⟩) (lo := 4) (mid := 5) (hi := 15) op3 rfl cl3 rfl (opensF_cons (f := ⟨"Snow", 3, 5, false, "", "", 40⟩) (lo := 5) (mid := 6) (hi := 15) op3 rfl cl3 rfl (opensF_cons (f := ⟨"Opens", 3, 6, false, "", "", 48⟩) (lo := 6) (mid := 7) (hi := 15) op3 rfl cl3 rfl (opensF_one (f := ⟨"More", 34, 7, false, "", "", 56⟩) (lo := 7) (hi := 15) op34 rfl cl34 rfl))))))))) enc w base spare held fuel cs x h
  obtain ⟨a, h1, h2⟩ := h0
  exact ⟨a, h1, h2⟩
theorem cl4 : Try.prog.cellsOf 4 = 1 := by kernel_rfl
theorem op4 : Opens Try.prog Kd.bool 4 (fun _ => True) := opens_bool Try.underlying4
theorem shape24 {w : World} {x : L.S24} {cs : List Value} (h : (L.k24).K w x cs) : ∃ (A1 : Option Addr) (c1 : Nat), cs = [.int .i64 x.f0, .slice A1 x.f1.length c1] ∧ Kd.C L.k34 w A1 x.f1.length x.f1 ∧ x.f1.length ≤ c1 := by
  obtain ⟨_, _, rfl, rfl, ⟨Aq0, cq0, rfl, lq0, gq0⟩⟩ := h
  exact ⟨Aq0, cq0, rfl, gq0, lq0⟩
theorem shape28 {w : World} {x : L.S28} {cs : List Value} (h : (L.k28).K w x cs) : cs = [.int .i64 x.f0, .int .i64 x.f1, .int .i64 x.f2.f0, .int .i64 x.f2.f1] := by
  obtain ⟨_, _, rfl, rfl, ⟨_, _, rfl, rfl, ⟨_, _, rfl, rfl, rfl⟩⟩⟩ := h
  exact rfl
theorem shape31 {w : World} {x : SS31} {cs : List Value} (h : (kk31).K w x cs) : ∃ (A4 : Option Addr) (c4 : Nat), cs = [.int .i64 x.f0, .int .i64 x.f1, .int .i64 x.f2, .int .i64 x.f3, .slice A4 x.f4.length c4, .int .i64 x.f5] ∧ Kd.C (Kd.int .i64) w A4 x.f4.length x.f4 ∧ x.f4.length ≤ c4 := by
  obtain ⟨_, _, rfl, rfl, ⟨_, _, rfl, rfl, ⟨_, _, rfl, rfl, ⟨_, _, rfl, rfl, ⟨_, _, rfl, ⟨Aq0, cq0, rfl, lq0, gq0⟩, rfl⟩⟩⟩⟩⟩ := h
  exact ⟨Aq0, cq0, rfl, gq0, lq0⟩
theorem shape36 {w : World} {x : L.S36} {cs : List Value} (h : (L.k36).K w x cs) : ∃ (A14 : Option Addr) (c14 : Nat), cs = [.int .i64 x.f0, .int .i64 x.f1, .int .i64 x.f2, .int .i64 x.f3, .int .i64 x.f4, .int .i64 x.f5, .int .i64 x.f6, .int .i64 x.f7.f0, .int .i64 x.f7.f1, .int .i64 x.f7.f2, .int .i64 x.f7.f3.f0, .int .i64 x.f7.f3.f1, .int .i64 x.f7.f4.f0, .int .i64 x.f7.f4.f1, .slice A14 x.f7.f5.length c14] ∧ Kd.C L.k26 w A14 x.f7.f5.length x.f7.f5 ∧ x.f7.f5.length ≤ c14 := by
  obtain ⟨_, _, rfl, rfl, ⟨_, _, rfl, rfl, ⟨_, _, rfl, rfl, ⟨_, _, rfl, rfl, ⟨_, _, rfl, rfl, ⟨_, _, rfl, rfl, ⟨_, _, rfl, rfl, ⟨_, _, rfl, rfl, ⟨_, _, rfl, rfl, ⟨_, _, rfl, rfl, ⟨_, _, rfl, ⟨_, _, rfl, rfl, rfl⟩, ⟨_, _, rfl, ⟨_, _, rfl, rfl, rfl⟩, ⟨Aq0, cq0, rfl, lq0, gq0⟩⟩⟩⟩⟩⟩⟩⟩⟩⟩⟩⟩⟩ := h
  exact ⟨Aq0, cq0, rfl, gq0, lq0⟩
def Walk : Prop := ∀ (x0 : L.S24) (A0_1 : Option Addr) (c0_1 : Nat) (x1 : L.S28) (x2 : SS31) (A2_4 : Option Addr) (c2_4 : Nat) (x3 : L.S36) (A3_14 : Option Addr) (c3_14 : Nat) (w : World), Kd.C L.k34 w A0_1 x0.f1.length x0.f1 → x0.f1.length ≤ c0_1 → (G24 x0) → (G28 x1) → Kd.C (Kd.int .i64) w A2_4 x2.f4.length x2.f4 → x2.f4.length ≤ c2_4 → (G31 x2) → Kd.C L.k26 w A3_14 x3.f7.f5.length x3.f7.f5 → x3.f7.f5.length ≤ c3_14 → (G36 x3) →
    Calls Try.prog 3 #[.agg #[.int .i64 x0.f0, .slice A0_1 x0.f1.length c0_1], .agg #[.int .i64 x1.f0, .int .i64 x1.f1, .int .i64 x1.f2.f0, .int .i64 x1.f2.f1], .agg #[.int .i64 x2.f0, .int .i64 x2.f1, .int .i64 x2.f2, .int .i64 x2.f3, .slice A2_4 x2.f4.length c2_4, .int .i64 x2.f5], .agg #[.int .i64 x3.f0, .int .i64 x3.f1, .int .i64 x3.f2, .int .i64 x3.f3, .int .i64 x3.f4, .int .i64 x3.f5, .int .i64 x3.f6, .int .i64 x3.f7.f0, .int .i64 x3.f7.f1, .int .i64 x3.f7.f2, .int .i64 x3.f7.f3.f0, .int .i64 x3.f7.f3.f1, .int .i64 x3.f7.f4.f0, .int .i64 x3.f7.f4.f1, .slice A3_14 x3.f7.f5.length c3_14]] w fun e w' => e = .returned (.bool true) ∧ Below w.heap.size w w'
end Go.Proofs.Ytnjlpkdpmbpblaa.PathsEasierOp
