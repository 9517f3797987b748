/- An argument's reading as data, opened into the printed texts' words, kind by kind. Conditions: none. -/
import Derived.Test.YtnjlpkdpmbpblaaWWords
import Derived.WalkKit
import Derived.ProofKit
import Derived.OpenShut
import Derived.ChangeOld
import Derived.Below
import Derived.SizedLaws
import Derived.Deep.Slices
import Derived.ChangeArms
set_option linter.unusedVariables false
set_option linter.unusedSimpArgs false
namespace Go.Proofs.Ytnjlpkdpmbpblaa
open Go.RowKit Go.Deep Go.Proofs.YtnjlpkdpmbpblaaW.PrintWords
/-- whatever reads as data at type t reads as one of this kind, and G holds of it -/
def Opens {α : Type} (P : Program) (d : Kd α) (t : TypeId) (G : α → Prop) : Prop :=
  ∀ {H : Type} (enc : TypeId × Value → H) (w : World) (base : Nat) (spare : Nat → Bool) (held : Bool) (fuel : Nat) (cs : List Value) (x : DataW H × List MemPlace), DataW.trod enc P w base spare held fuel t cs = some x → ∃ a : α, d.K w a cs ∧ G a
/-- fields, laid from lo to hi -/
def OpensF {α : Type} (P : Program) (d : Kd α) (fs : List Field) (lo hi : Nat) (G : α → Prop) : Prop :=
  ∀ {H : Type} (enc : TypeId × Value → H) (w : World) (base : Nat) (spare : Nat → Bool) (held : Bool) (fuel : Nat) (cs : List Value), cs.length = hi → (∀ f ∈ fs, ∃ y : DataW H × List MemPlace, DataW.trod enc P w base spare held fuel f.type ((cs.drop f.offset).take (P.cellsOf f.type)) = some y) →
    ∃ a : α, d.K w a (cs.drop lo) ∧ G a
section
variable {P : Program}
theorem opens_int {t : TypeId} {k : IntKind} (ht : P.underlying t = some (.int k)) : Opens P (Kd.int k) t (fun a => (Lit.int k a).wf = true) := fun enc w base spare held fuel cs x h => by
  obtain ⟨n, rfl, _, hw⟩ := DataW.trod_int ht h
  exact ⟨n, rfl, hw⟩
theorem opens_bool {t : TypeId} (ht : P.underlying t = some .bool) : Opens P Kd.bool t (fun _ => True) := fun enc w base spare held fuel cs x h => by
  obtain ⟨n, rfl, _⟩ := DataW.trod_bool ht h
  exact ⟨n, rfl, trivial⟩
theorem mapM_get {α β : Type} {f : α → Option β} : ∀ {l : List α} {r : List β}, l.mapM f = some r → r.length = l.length ∧ ∀ (i : Nat) (x : α), l[i]? = some x → f x = r[i]?
  | [], r, h => by
    simp at h; subst h
    exact ⟨rfl, fun i x hx => by simp at hx⟩
  | y :: l, r, h => by
    rw [List.mapM_cons] at h
    obtain ⟨b, hb, h⟩ := Option.bind_eq_some_iff.1 h
    obtain ⟨r', hr, h⟩ := Option.bind_eq_some_iff.1 h
    simp at h; subst h
    obtain ⟨h1, h2⟩ := mapM_get hr
    refine ⟨by simp [h1], fun i x hx => ?_⟩
    cases i with
    | zero => simp at hx; subst hx; simp [hb]
    | succ i => simp at hx ⊢; exact h2 i x hx
theorem cells_get {w : World} {base : Nat} {a : Addr} {n : Nat} {cs : List Value} (h : w.cells? base a n = some cs) : cs.length = n ∧ ∀ i u, cs[i]? = some u → w.cell? (a.add i) = some u := by
  unfold World.cells? at h
  split at h
  · obtain ⟨h1, h2⟩ := mapM_get h
    rw [List.length_range] at h1
    refine ⟨h1, fun i u hu => ?_⟩
    have hi : i < n := by have := (List.getElem?_eq_some_iff.1 hu).1; omega
    rw [h2 i i (by rw [List.getElem?_range hi]), hu]
  · cases h
theorem opens_slice {α : Type} {d : Kd α} {t e : TypeId} {G : α → Prop} (ht : P.underlying t = some (.slice e)) (hs : P.cellsOf e = d.sz) (h : Opens P d e G) : Opens P (Kd.slice e d) t (fun l => l.length ≤ maxLen ∧ ∀ x ∈ l, G x) := fun enc w base spare held fuel cs x hx => by
  rcases open_slice ht hx with ⟨rfl, _⟩ | ⟨a, len, cap, m, n, D, Pl, rfl, _, hlc, hcm, hm, _, hel⟩
  · exact ⟨[], ⟨none, 0, rfl, Nat.le_refl _, Kd.C_nil d w⟩, Nat.zero_le _, fun x hx => by cases hx⟩
  · have hlm : len ≤ m := by rw [hm]; split <;> omega
    have key : ∀ i, ∃ b : Option α, i < len → ∃ y c, b = some y ∧ c.length = d.sz ∧ d.K w y c ∧ G y ∧ ∀ j u, c[j]? = some u → w.cell? (a.add (i * d.sz + j)) = some u := fun i => by
      by_cases hi : i < len
      · obtain ⟨c, hc, htr⟩ := hel i (by omega)
        obtain ⟨y, hy, hg⟩ := h enc w base spare held n c _ htr
        obtain ⟨h1, h2⟩ := cells_get hc
        refine ⟨some y, fun _ => ⟨y, c, rfl, d.K_len hy, hy, hg, fun j u hu => ?_⟩⟩
        have h3 := h2 j u hu
        rwa [Go.Deep.add_add, hs] at h3
      · exact ⟨none, fun h => absurd h hi⟩
    obtain ⟨l, hl⟩ : ∃ l : List α, l.length = len ∧ ∀ i y, l[i]? = some y → (key i).choose = some y := by
      have hsome : ∀ i, i < len → ∃ y, (key i).choose = some y := fun i hi => by
        obtain ⟨y, _, hy, _⟩ := (key i).choose_spec hi
        exact ⟨y, hy⟩
      clear hel hx
      have main : ∀ q, q ≤ len → ∃ l : List α, l.length = q ∧ ∀ i y, l[i]? = some y → (key i).choose = some y := by
        intro q
        induction q with
        | zero => exact fun _ => ⟨[], rfl, fun i y h => by simp at h⟩
        | succ q ih =>
          intro hq
          obtain ⟨l, h1, h2⟩ := ih (by omega)
          obtain ⟨y, hy⟩ := hsome q (by omega)
          refine ⟨l ++ [y], by simp [h1], fun i z hz => ?_⟩
          by_cases hi : i < l.length
          · rw [List.getElem?_append_left hi] at hz; exact h2 i z hz
          · have hlt := (List.getElem?_eq_some_iff.1 hz).1
            simp only [List.length_append, List.length_singleton] at hlt
            have e : i = q := by omega
            subst e
            rw [List.getElem?_append_right (by omega), h1] at hz
            simp at hz
            rw [hy, hz]
      exact main len (Nat.le_refl _)
    obtain ⟨hl1, hl2⟩ := hl
    refine ⟨l, ⟨some a, cap, by rw [hl1], by omega, ?_⟩, by rw [hl1]; omega, fun x hx => ?_⟩
    · refine ⟨rfl, by rw [hl1]; unfold maxLen at hcm; omega, fun _ => ⟨a, rfl, fun j p hp => ?_⟩⟩
      have hj := (List.getElem?_eq_some_iff.1 hp).1
      obtain ⟨y, c, hy, h1, h2, _, h3⟩ := (key j).choose_spec (by omega)
      rw [hl2 j p hp] at hy
      injection hy with hy
      subst hy
      exact ⟨c, h1, h2, h3⟩
    · obtain ⟨j, hj, rfl⟩ := List.getElem_of_mem hx
      obtain ⟨y, c, hy, _, _, h2, _⟩ := (key j).choose_spec (by omega)
      rw [hl2 j l[j] (List.getElem?_eq_getElem hj)] at hy
      injection hy with hy
      rw [hy]
      exact h2
theorem opensF_one {α : Type} {d : Kd α} {f : Field} {G : α → Prop} {lo n hi : Nat} (h : Opens P d f.type G) (h1 : f.offset = lo) (h2' : P.cellsOf f.type = n) (h2n : lo + n = hi) : OpensF P d [f] lo hi G := fun enc w base spare held fuel cs hl hf => by
  obtain ⟨y, hy⟩ := hf f List.mem_cons_self
  obtain ⟨a, ha, hg⟩ := h enc w base spare held fuel _ _ hy
  have h2 : lo + P.cellsOf f.type = hi := by rw [h2']; exact h2n
  rw [h1, List.take_of_length_le (by rw [List.length_drop]; omega)] at ha
  exact ⟨a, ha, hg⟩
theorem opensF_cons {α β : Type} {d : Kd α} {d' : Kd β} {f : Field} {fs : List Field} {G : α → Prop} {G' : β → Prop} {lo n mid hi : Nat} (h : Opens P d f.type G) (h1 : f.offset = lo) (h2' : P.cellsOf f.type = n) (h2n : lo + n = mid) (hr : OpensF P d' fs mid hi G') :
    OpensF P (Kd.pair d d') (f :: fs) lo hi (fun x => G x.1 ∧ G' x.2) := fun enc w base spare held fuel cs hl hf => by
  obtain ⟨y, hy⟩ := hf f List.mem_cons_self
  obtain ⟨a, ha, hg⟩ := h enc w base spare held fuel _ _ hy
  obtain ⟨b, hb, hg'⟩ := hr enc w base spare held fuel cs hl (fun f' hf' => hf f' (List.mem_cons_of_mem _ hf'))
  have h2 : lo + P.cellsOf f.type = mid := by rw [h2']; exact h2n
  refine ⟨(a, b), ⟨_, _, ?_, ha, hb⟩, hg, hg'⟩
  rw [h1, ← h2, ← List.drop_drop, List.take_append_drop]
theorem opens_struct {α β : Type} {d : Kd α} {g : β → α} {g' : α → β} {t : TypeId} {fs : Array Field} {G : α → Prop} {tot : Nat} (ht : P.underlying t = some (.struct fs)) (hC : P.cellsOf t = tot) (hg : ∀ a, g (g' a) = a) (h : OpensF P d fs.toList 0 tot G) :
    Opens P (Kd.iso d g) t (fun b => G (g b)) := fun enc w base spare held fuel cs x hx => by
  obtain ⟨xs, n, _, _, hl, hlen, hf⟩ := DataW.trod_struct ht hx
  obtain ⟨a, ha, hga⟩ := h enc w base spare held n cs (hl.trans hC) (fun f hf' => by
    obtain ⟨i, hi, rfl⟩ := List.getElem_of_mem hf'
    have h1 := hf i fs.toList[i] (by simp)
    rw [h1]
    have hi' : i < xs.length := by rw [hlen]; simpa using hi
    exact ⟨xs[i], List.getElem?_eq_getElem hi'⟩)
  refine ⟨g' a, ?_, by show G (g (g' a)); rw [hg]; exact hga⟩
  show d.K w (g (g' a)) cs
  rw [hg]
  simpa using ha
end
end Go.Proofs.Ytnjlpkdpmbpblaa
