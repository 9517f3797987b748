/- Bridges between the printed texts' words for memory (rows that read as lists) and the words of the walks of this family. Conditions: none. -/
import Derived.Test.YtnjlpkdpmbpblaaLx0
import Derived.Test.YtnjlpkdpmbpblaaRouteA
set_option linter.unusedVariables false
set_option linter.unusedSimpArgs false
namespace Go.Proofs.Ytnjlpkdpmbpblaa
open Go.RowKit Go.Proofs.YtnjlpkdpmbpblaaW.PrintWords
theorem spot_none {w : World} {a : Addr} {v : Value} (h : w.cell? a = some v) : a.spot = none := by
  unfold World.cell? at h
  split at h
  · split at h
    · cases h
    · rename_i hs; simpa using hs
  · cases h
theorem addr_eta {a : Addr} (h : a.spot = none) : a = ⟨a.block, a.off, none⟩ := by cases a; simp at h; subst h; rfl
theorem add_lit' (b o m : Nat) : (⟨b, o, none⟩ : Addr).add m = ⟨b, o + m, none⟩ := by
  unfold Addr.add
  split
  · rename_i h; subst h; rfl
  · rfl
theorem c_open {α : Type} {d : Kd α} {w : World} {A : Option Addr} {xs : List α} (h : d.C w A xs.length xs) (h0 : 0 < xs.length) (hs : 0 < d.sz) :
    ∃ b o, A = some ⟨b, o, none⟩ ∧ b < w.heap.size ∧ ∀ j p, xs[j]? = some p → ∃ c, c.length = d.sz ∧ d.K w p c ∧ ∀ i u, c[i]? = some u → w.cell? ⟨b, o + (j * d.sz + i), none⟩ = some u := by
  have h3 := h.2.2
  obtain ⟨ad, rfl, h7⟩ := h3 h0
  obtain ⟨c, hc1, hc2, hc3⟩ := h7 0 xs[0] (List.getElem?_eq_getElem h0)
  have h4 := hc3 0 (c[0]'(by omega)) (List.getElem?_eq_getElem (by omega))
  have h4' : w.cell? ad = some (c[0]'(by omega)) := by simpa [Addr.add] using h4
  have hsp := spot_none h4'
  refine ⟨ad.block, ad.off, by rw [← addr_eta hsp], World.block_lt_of_cell? w ad h4', fun j p hp => ?_⟩
  obtain ⟨c, hc1, hc2, hc3⟩ := h7 j p hp
  refine ⟨c, hc1, hc2, fun i u hu => ?_⟩
  have h5 := hc3 i u hu
  rw [addr_eta hsp, add_lit'] at h5
  exact h5
theorem ints_of {w : World} {A : Option Addr} {xs : List Int} (h : (Kd.int .i64).C w A xs.length xs) : Ints w A xs := by
  intro h0
  obtain ⟨b, o, rfl, hb, hc⟩ := c_open h h0 (by decide)
  refine ⟨⟨b, o, rfl⟩, hb, fun k j hk hj => ?_⟩
  obtain ⟨c, hc1, hc2, hc3⟩ := hc k xs[k] (List.getElem?_eq_getElem hk)
  have hj0 : j = 0 := by omega
  subst hj0
  have hc2' : c = [.int .i64 xs[k]] := hc2
  have h6 := hc3 0 (.int .i64 xs[k]) (by rw [hc2']; rfl)
  show w.cell? ⟨b, o + k * 1 + 0, none⟩ = some (.int .i64 (nth xs k))
  rw [nth_eq hk]
  refine cell_off h6 ?_
  show o + (k * 1 + 0) = o + k * 1 + 0
  omega
theorem r_of_owns {w : World} {base base' : Nat} {ok : Nat → Prop} {v : Value} {xs : List Int} (h : w.ownsRow base' 3 1 v xs.length (xs.map (Value.int .i64))) (hb : base ≤ base') (hok : ∀ k, v.ownBlock = some k → ok k) : (Kd.int .i64).R 3 w base ok v xs :=
  Kd.R_of_own (owns_weaken h hb) hok
theorem owns_of_row {w : World} {b : Nat} {xs : List Int} (h : Row w b xs) (hl : xs.length ≤ 1000) : w.ownsRow b 3 1 (.slice (some ⟨b, 0, none⟩) xs.length xs.length) xs.length (xs.map (Value.int .i64)) :=
  ⟨by simp, .inr ⟨b, xs.length, _, rfl, Nat.le_refl _, h, Nat.le_refl _, by unfold maxLen; omega, by simp, by simp [List.take_of_length_le]⟩⟩
/-! what the printed texts call S26, S34 -/
def spnOf (x : L.S26) : Spn := ⟨x.f0, x.f1⟩
def pthOf (x : L.S34) : Pth := ⟨x.f0, x.f1, x.f2, spnOf x.f3, spnOf x.f4, x.f5.map spnOf⟩
def ntOf (places : Int) (l : List L.S34) : Nt := ⟨places, l.map pthOf⟩
theorem nth_map {α β : Type} [Inhabited β] (f : α → β) {l : List α} {k : Nat} (h : k < l.length) : nth (l.map f) k = f l[k] := by
  rw [nth_eq (by simpa using h)]; simp
theorem spns_of {w : World} {A : Option Addr} {xs : List L.S26} (h : L.k26.C w A xs.length xs) : Spns w A (xs.map spnOf) := by
  intro h0
  rw [List.length_map] at h0
  obtain ⟨b, o, rfl, hb, hc⟩ := c_open h h0 (by decide)
  refine ⟨⟨b, o, rfl⟩, hb, fun k j hk hj => ?_⟩
  rw [List.length_map] at hk
  obtain ⟨c, hc1, hc2, hc3⟩ := hc k xs[k] (List.getElem?_eq_getElem hk)
  have hc4 := L.k26_open hc2
  have hj2 : j = 0 ∨ j = 1 := by omega
  have hm := nth_map spnOf hk
  rcases hj2 with rfl | rfl
  all_goals (dsimp only; rw [hm])
  · exact cell_off (hc3 0 _ (by rw [hc4]; rfl)) (by show o + (k * 2 + 0) = o + k * 2 + 0; omega)
  · exact cell_off (hc3 1 _ (by rw [hc4]; rfl)) (by show o + (k * 2 + 1) = o + k * 2 + 1; omega)
theorem pths_of {w : World} {A : Option Addr} {xs : List L.S34} (h : L.k34.C w A xs.length xs) : ∃ B C, Pths w A B C (xs.map pthOf) := by
  by_cases h0 : 0 < xs.length
  · obtain ⟨b, o, rfl, hb, hc⟩ := c_open h h0 (by decide)
    have key : ∀ k : Nat, ∃ (A7 : Option Addr) (c7 : Nat), ∀ (hk : k < xs.length), L.k26.C w A7 xs[k].f5.length xs[k].f5 ∧
        ∀ i u, ([.int .i64 xs[k].f0, .int .i64 xs[k].f1, .int .i64 xs[k].f2, .int .i64 xs[k].f3.f0, .int .i64 xs[k].f3.f1, .int .i64 xs[k].f4.f0, .int .i64 xs[k].f4.f1, .slice A7 xs[k].f5.length c7] : List Value)[i]? = some u → w.cell? ⟨b, o + (k * 8 + i), none⟩ = some u := by
      intro k
      by_cases hk : k < xs.length
      · obtain ⟨c, hc1, hc2, hc3⟩ := hc k xs[k] (List.getElem?_eq_getElem hk)
        obtain ⟨A7, c7, hc4, _, hc5⟩ := L.k34_open hc2
        exact ⟨A7, c7, fun _ => ⟨hc5, fun i u hu => hc3 i u (by rw [hc4]; exact hu)⟩⟩
      · exact ⟨none, 0, fun h => absurd h hk⟩
    refine ⟨fun k => (key k).choose, fun k => (key k).choose_spec.choose, ⟨?_, ?_⟩⟩
    · intro h1
      refine ⟨⟨b, o, rfl⟩, hb, fun k j hk hj => ?_⟩
      rw [List.length_map] at hk
      obtain ⟨_, hcell⟩ := (key k).choose_spec.choose_spec hk
      have hj8 : j = 0 ∨ j = 1 ∨ j = 2 ∨ j = 3 ∨ j = 4 ∨ j = 5 ∨ j = 6 ∨ j = 7 := by omega
      have hm := nth_map pthOf hk
      rcases hj8 with rfl | rfl | rfl | rfl | rfl | rfl | rfl | rfl
      all_goals (dsimp only [pathCell]; rw [hm])
      · exact cell_off (hcell 0 _ rfl) (by show o + (k * 8 + 0) = o + k * 8 + 0; omega)
      · exact cell_off (hcell 1 _ rfl) (by show o + (k * 8 + 1) = o + k * 8 + 1; omega)
      · exact cell_off (hcell 2 _ rfl) (by show o + (k * 8 + 2) = o + k * 8 + 2; omega)
      · exact cell_off (hcell 3 _ rfl) (by show o + (k * 8 + 3) = o + k * 8 + 3; omega)
      · exact cell_off (hcell 4 _ rfl) (by show o + (k * 8 + 4) = o + k * 8 + 4; omega)
      · exact cell_off (hcell 5 _ rfl) (by show o + (k * 8 + 5) = o + k * 8 + 5; omega)
      · exact cell_off (hcell 6 _ rfl) (by show o + (k * 8 + 6) = o + k * 8 + 6; omega)
      · refine cell_off (hcell 7 (.slice (key k).choose (pthOf xs[k]).opens.length (key k).choose_spec.choose) ?_) (by show o + (k * 8 + 7) = o + k * 8 + 7; omega)
        have e : (pthOf xs[k]).opens.length = xs[k].f5.length := by simp [pthOf]
        rw [e]
        rfl
    · intro k hk
      rw [List.length_map] at hk
      obtain ⟨hop, _⟩ := (key k).choose_spec.choose_spec hk
      rw [nth_map pthOf hk]
      exact spns_of hop
  · have hx : xs = [] := List.length_eq_zero_iff.1 (by omega)
    subst hx
    exact ⟨fun _ => none, fun _ => 0, ⟨fun h => absurd h (by simp), fun k hk => absurd hk (by simp)⟩⟩
end Go.Proofs.Ytnjlpkdpmbpblaa
