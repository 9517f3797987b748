/- A net in new memory: a row of paths whose opens are rows of their own, apart from each other; words for it. Conditions: none. -/
import Derived.Test.YtnjlpkdpmbpblaaBridge
import Derived.Test.YtnjlpkdpmbpblaaGa
set_option linter.unusedVariables false
set_option linter.unusedSimpArgs false
namespace Go.Proofs.Ytnjlpkdpmbpblaa
open Go.RowKit Go.Proofs.YtnjlpkdpmbpblaaW.PrintWords
abbrev PathS : Type := L.S34
abbrev SpanS : Type := L.S26
def pcell (x : PathS) (v : Value) : List Value := [.int .i64 x.f0, .int .i64 x.f1, .int .i64 x.f2, .int .i64 x.f3.f0, .int .i64 x.f3.f1, .int .i64 x.f4.f0, .int .i64 x.f4.f1, v]
def pcells (V : Nat → Value) : Nat → List PathS → List Value
  | _, [] => []
  | k, x :: r => pcell x (V k) ++ pcells V (k + 1) r
def scells : List SpanS → List Value
  | [] => []
  | s :: r => [.int .i64 s.f0, .int .i64 s.f1] ++ scells r
theorem pcells_length (V : Nat → Value) : ∀ (l : List PathS) k, (pcells V k l).length = l.length * 8
  | [], _ => rfl
  | x :: r, k => by rw [pcells, List.length_append, pcells_length V r (k + 1), List.length_cons]; show 8 + _ = _; omega
theorem scells_length : ∀ (l : List SpanS), (scells l).length = l.length * 2
  | [] => rfl
  | s :: r => by rw [scells, List.length_append, scells_length r]; show 2 + _ = (r.length + 1) * 2; omega
theorem pcells_get (V : Nat → Value) : ∀ (l : List PathS) (k j i : Nat) (x : PathS), l[j]? = some x → i < 8 → (pcells V k l)[j * 8 + i]? = (pcell x (V (k + j)))[i]?
  | [], _, _, _, _, h, _ => by simp at h
  | y :: r, k, 0, i, x, h, hi => by
    simp at h
    subst h
    rw [pcells, List.getElem?_append_left (by show _ < 8; omega)]
    simp
  | y :: r, k, j + 1, i, x, h, hi => by
    rw [pcells, List.getElem?_append_right (by show 8 ≤ _; omega)]
    have e : (j + 1) * 8 + i - (pcell y (V k)).length = j * 8 + i := by show _ - 8 = _; omega
    rw [e, pcells_get V r (k + 1) j i x (by simpa using h) hi]
    rw [show k + 1 + j = k + (j + 1) by omega]
theorem pcells_ext {V : Nat → Value} {l : List PathS} {xs : List Value} (hl : xs.length = l.length * 8) (h : ∀ j i x, l[j]? = some x → i < 8 → xs[j * 8 + i]? = (pcell x (V j))[i]?) : xs = pcells V 0 l := by
  apply List.ext_getElem?
  intro q
  by_cases hq : q < l.length * 8
  · have e : q = (q / 8) * 8 + q % 8 := by omega
    have hj : q / 8 < l.length := by omega
    rw [e, h (q / 8) (q % 8) l[q / 8] (List.getElem?_eq_getElem hj) (by omega), pcells_get V l 0 (q / 8) (q % 8) l[q / 8] (List.getElem?_eq_getElem hj) (by omega), Nat.zero_add]
  · rw [List.getElem?_eq_none (by omega), List.getElem?_eq_none (by rw [pcells_length]; omega)]
theorem scells_get : ∀ (l : List SpanS) (j i : Nat) (x : SpanS), l[j]? = some x → i < 2 → (scells l)[j * 2 + i]? = ([.int .i64 x.f0, .int .i64 x.f1] : List Value)[i]?
  | [], _, _, _, h, _ => by simp at h
  | y :: r, 0, i, x, h, hi => by
    simp at h
    subst h
    rw [scells, List.getElem?_append_left (by show _ < 2; omega)]
    simp
  | y :: r, j + 1, i, x, h, hi => by
    rw [scells, List.getElem?_append_right (by show 2 ≤ _; omega)]
    have e : (j + 1) * 2 + i - ([.int .i64 y.f0, .int .i64 y.f1] : List Value).length = j * 2 + i := by show _ - 2 = _; omega
    rw [e, scells_get r j i x (by simpa using h) hi]
theorem scells_ext {l : List SpanS} {xs : List Value} (hl : xs.length = l.length * 2) (h : ∀ j i x, l[j]? = some x → i < 2 → xs[j * 2 + i]? = ([.int .i64 x.f0, .int .i64 x.f1] : List Value)[i]?) : xs = scells l := by
  apply List.ext_getElem?
  intro q
  by_cases hq : q < l.length * 2
  · have e : q = (q / 2) * 2 + q % 2 := by omega
    have hj : q / 2 < l.length := by omega
    rw [e, h (q / 2) (q % 2) l[q / 2] (List.getElem?_eq_getElem hj) (by omega), scells_get l (q / 2) (q % 2) l[q / 2] (List.getElem?_eq_getElem hj) (by omega)]
  · rw [List.getElem?_eq_none (by omega), List.getElem?_eq_none (by rw [scells_length]; omega)]
theorem scells_snoc : ∀ (l : List SpanS) (s : SpanS), scells (l ++ [s]) = scells l ++ [.int .i64 s.f0, .int .i64 s.f1]
  | [], s => rfl
  | x :: r, s => by rw [List.cons_append, scells, scells_snoc r s, scells, List.append_assoc]
theorem pcells_snoc (V : Nat → Value) : ∀ (l : List PathS) (k : Nat) (x : PathS), pcells V k (l ++ [x]) = pcells V k l ++ pcell x (V (k + l.length))
  | [], k, x => by simp [pcells]
  | y :: r, k, x => by rw [List.cons_append, pcells, pcells_snoc V r (k + 1) x, pcells, List.append_assoc, List.length_cons, show k + 1 + r.length = k + (r.length + 1) by omega]
theorem pcells_congr {V W : Nat → Value} {l : List PathS} (h : ∀ j, j < l.length → V j = W j) : pcells V 0 l = pcells W 0 l := by
  refine pcells_ext (pcells_length _ _ _) (fun j i x hx hi => ?_)
  rw [pcells_get V l 0 j i x hx hi, Nat.zero_add, h j (List.getElem?_eq_some_iff.1 hx).1]
/-- a net in new memory -/
structure NN (w : World) (base : Nat) (v : Value) (l : List PathS) (V : Nat → Value) : Prop where
  own : w.ownsRow base 34 8 v l.length (pcells V 0 l)
  inn : ∀ j x, l[j]? = some x → w.ownsRow base 26 2 (V j) x.f5.length (scells x.f5)
  apart : ∀ i j b, i ≠ j → i < l.length → j < l.length → (V i).ownBlock = some b → (V j).ownBlock ≠ some b
theorem owns_pw {w w' : World} {base : Nat} {e : TypeId} {size : Nat} {v : Value} {n : Nat} {xs : List Value} (h : w.ownsRow base e size v n xs) (hx : Ext w w') : w'.ownsRow base e size v n xs :=
  h.kept (row := none) ⟨hx.os, hx.tape, hx.output, hx.size, fun i hi _ => hx.block i hi⟩ (by cases v.ownBlock <;> simp)
theorem NN.ext {w w' : World} {base : Nat} {v : Value} {l : List PathS} {V : Nat → Value} (h : NN w base v l V) (hx : Ext w w') : NN w' base v l V :=
  ⟨owns_pw h.own hx, fun j x hj => owns_pw (h.inn j x hj) hx, h.apart⟩
theorem owns_cut {w : World} {base : Nat} {e : TypeId} {size : Nat} {v : Value} {n : Nat} {xs ys : List Value} (h : w.ownsRow base e size v n xs) (e' : xs = ys) : w.ownsRow base e size v n ys := e' ▸ h
theorem nn_of_S {w : World} {base : Nat} {v : Value} {xs : List PathS} (h : Kd.S L.k34 34 w base (fun _ => True) v xs) : ∃ V, NN w base v xs V := by
  obtain ⟨f, h0, inner, ho, hl, hr⟩ := h
  rw [List.length_zipIdx] at ho hl
  have key : ∀ j, ∃ u, ∀ x, xs[j]? = some x → (inner.drop (j * 8)).take 8 = pcell x u ∧ w.ownsRow base 26 2 u x.f5.length (scells x.f5) ∧ ∀ k, u.ownBlock = some k → f k = j := by
    intro j
    by_cases hj : j < xs.length
    · have h1 := hr j (xs[j], j) (Kd.zip_at (List.getElem?_eq_getElem hj))
      obtain ⟨u, hu, hk0, inner2, ho2, hl2, hr2⟩ := L.k34_openM h1
      refine ⟨u, fun x hx => ?_⟩
      have ex : xs[j] = x := by rw [List.getElem?_eq_getElem hj] at hx; injection hx
      subst ex
      refine ⟨hu, owns_cut ho2 (scells_ext hl2 (fun q i s hs hi => ?_)), fun k hk => (hk0 k hk).2⟩
      have h3 := L.k26_openM (hr2 q s hs)
      have h4 : ((inner2.drop (q * 2)).take 2)[i]? = inner2[q * 2 + i]? := by rw [List.getElem?_take, if_pos hi, List.getElem?_drop]
      rw [← h4]
      exact congrArg (fun l => l[i]?) h3
    · exact ⟨.slice none 0 0, fun x hx => by rw [List.getElem?_eq_none (by omega)] at hx; cases hx⟩
  refine ⟨fun j => (key j).choose, ⟨owns_cut ho (pcells_ext hl (fun j i x hx hi => ?_)), fun j x hx => ((key j).choose_spec x hx).2.1, fun i j b hij hi hj h1 h2 => ?_⟩⟩
  · have h1 := ((key j).choose_spec x hx).1
    rw [← h1, List.getElem?_take, if_pos hi, List.getElem?_drop]
  · have h3 := ((key i).choose_spec xs[i] (List.getElem?_eq_getElem hi)).2.2 b h1
    have h4 := ((key j).choose_spec xs[j] (List.getElem?_eq_getElem hj)).2.2 b h2
    omega
theorem owns_slice {w : World} {base : Nat} {e : TypeId} {size : Nat} {v : Value} {n : Nat} {xs : List Value} (h : w.ownsRow base e size v n xs) : ∃ D cap, v = .slice D n cap ∧ n ≤ maxLen ∧ (0 < n → ∃ g, D = some ⟨g, 0, none⟩) := by
  rcases h.2 with ⟨rfl, rfl⟩ | ⟨g, cap, cur, rfl, _, _, h5, h6, _⟩
  · exact ⟨none, 0, rfl, Nat.zero_le _, fun h => absurd h (by omega)⟩
  · exact ⟨_, cap, rfl, by omega, fun _ => ⟨g, rfl⟩⟩
/-- what a walk reads of path q of a net in new memory -/
theorem NN.cell {w : World} {base g n cap : Nat} {l : List PathS} {V : Nat → Value} (h : NN w base (.slice (some ⟨g, 0, none⟩) n cap) l V) {q : Nat} (hq : q < l.length) : ∀ i u, (pcell l[q] (V q))[i]? = some u → ∀ W, Ext w W → W.cell? ⟨g, q * 8 + i, none⟩ = some u := by
  intro i u hu W hW
  have hi : i < 8 := (List.getElem?_eq_some_iff.1 hu).1
  have h1 := (owns_pw h.own hW).cells (g := g) rfl (q * 8 + i) u (by rw [pcells_get V l 0 q i l[q] (List.getElem?_eq_getElem hq) hi, Nat.zero_add]; exact hu)
  rwa [add_lit', Nat.zero_add] at h1
theorem block_ne_of_type {w : World} {a b : Nat} {c d : Array Value} {s t : TypeId} {f f' : Nat × Nat} (h : w.heap[a]? = some (.cells c s f)) (h' : w.heap[b]? = some (.cells d t f')) (ht : s ≠ t) : a ≠ b := by
  rintro rfl
  rw [h] at h'
  injection h' with h'
  injection h' with _ h'
  exact ht h'
theorem owns_store {w : World} {base : Nat} {e : TypeId} {size : Nat} {v : Value} {n : Nat} {xs : List Value} (h : w.ownsRow base e size v n xs) {g : Nat} (hg : v.ownBlock ≠ some g) (i : Nat) (u : Value) : (w.setCell ⟨g, i, none⟩ u).ownsRow base e size v n xs :=
  owns_same h fun k c f hk _ => heap_set_other (by rintro rfl; exact hg hk)
/-- the cells of path q are stored -/
def sets8 (w : World) (g o : Nat) (x : PathS) (v : Value) : World :=
  (((((((w.setCell ⟨g, o, none⟩ (.int .i64 x.f0)).setCell ⟨g, o + 1, none⟩ (.int .i64 x.f1)).setCell ⟨g, o + 2, none⟩ (.int .i64 x.f2)).setCell ⟨g, o + 3, none⟩ (.int .i64 x.f3.f0)).setCell ⟨g, o + 4, none⟩ (.int .i64 x.f3.f1)).setCell ⟨g, o + 5, none⟩ (.int .i64 x.f4.f0)).setCell ⟨g, o + 6, none⟩ (.int .i64 x.f4.f1)).setCell ⟨g, o + 7, none⟩ v
theorem sets8_other {w : World} {g o k : Nat} {x : PathS} {v : Value} (h : k ≠ g) : (sets8 w g o x v).heap[k]? = w.heap[k]? := by
  unfold sets8
  repeat rw [heap_set_other (by exact h)]
theorem sets8_size (w : World) (g o : Nat) (x : PathS) (v : Value) : (sets8 w g o x v).heap.size = w.heap.size := by simp [sets8, World.setCell]
theorem sets8_owns {w : World} {base g cap n o : Nat} {xs : List Value} {e : TypeId} {size : Nat} (h : w.ownsRow base e size (.slice (some ⟨g, 0, none⟩) n cap) n xs) (x : PathS) (v : Value) :
    (sets8 w g o x v).ownsRow base e size (.slice (some ⟨g, 0, none⟩) n cap) n ((((((((xs.set o (.int .i64 x.f0)).set (o + 1) (.int .i64 x.f1)).set (o + 2) (.int .i64 x.f2)).set (o + 3) (.int .i64 x.f3.f0)).set (o + 4) (.int .i64 x.f3.f1)).set (o + 5) (.int .i64 x.f4.f0)).set (o + 6) (.int .i64 x.f4.f1)).set (o + 7) v) :=
  ((((((((h.stored o _).1.stored (o + 1) _).1.stored (o + 2) _).1.stored (o + 3) _).1.stored (o + 4) _).1.stored (o + 5) _).1.stored (o + 6) _).1.stored (o + 7) v).1
theorem sets8_list {xs : List Value} {o : Nat} (ho : o + 8 ≤ xs.length) (x : PathS) (v : Value) (i : Nat) :
    ((((((((xs.set o (.int .i64 x.f0)).set (o + 1) (.int .i64 x.f1)).set (o + 2) (.int .i64 x.f2)).set (o + 3) (.int .i64 x.f3.f0)).set (o + 4) (.int .i64 x.f3.f1)).set (o + 5) (.int .i64 x.f4.f0)).set (o + 6) (.int .i64 x.f4.f1)).set (o + 7) v)[i]? = if o ≤ i ∧ i < o + 8 then (pcell x v)[i - o]? else xs[i]? := by
  by_cases h : o ≤ i ∧ i < o + 8
  · rw [if_pos h]
    obtain ⟨d, rfl⟩ : ∃ d, i = o + d := ⟨i - o, by omega⟩
    have hd : d = 0 ∨ d = 1 ∨ d = 2 ∨ d = 3 ∨ d = 4 ∨ d = 5 ∨ d = 6 ∨ d = 7 := by omega
    rw [Nat.add_sub_cancel_left]
    have ho' : o < xs.length ∧ o + 1 < xs.length ∧ o + 2 < xs.length ∧ o + 3 < xs.length ∧ o + 4 < xs.length ∧ o + 5 < xs.length ∧ o + 6 < xs.length ∧ o + 7 < xs.length := by omega
    obtain ⟨a0, a1, a2, a3, a4, a5, a6, a7⟩ := ho'
    rcases hd with rfl | rfl | rfl | rfl | rfl | rfl | rfl | rfl <;> simp [pcell, a0, a1, a2, a3, a4, a5, a6, a7]
  · rw [if_neg h]
    have n0 : o ≠ i ∧ o + 1 ≠ i ∧ o + 2 ≠ i ∧ o + 3 ≠ i ∧ o + 4 ≠ i ∧ o + 5 ≠ i ∧ o + 6 ≠ i ∧ o + 7 ≠ i := by omega
    obtain ⟨a0, a1, a2, a3, a4, a5, a6, a7⟩ := n0
    rw [List.getElem?_set_ne a7, List.getElem?_set_ne a6, List.getElem?_set_ne a5, List.getElem?_set_ne a4, List.getElem?_set_ne a3, List.getElem?_set_ne a2, List.getElem?_set_ne a1, List.getElem?_set_ne a0]
theorem nn_put {w : World} {base g cap : Nat} {l : List PathS} {V : Nat → Value} {q : Nat} (hown : w.ownsRow base 34 8 (.slice (some ⟨g, 0, none⟩) l.length cap) l.length (pcells V 0 l))
    (hinn : ∀ j x, j ≠ q → l[j]? = some x → w.ownsRow base 26 2 (V j) x.f5.length (scells x.f5)) (hapt : ∀ i j b, i ≠ j → i ≠ q → j ≠ q → i < l.length → j < l.length → (V i).ownBlock = some b → (V j).ownBlock ≠ some b) (hq : q < l.length) (x : PathS) (v : Value)
    (hin : w.ownsRow base 26 2 v x.f5.length (scells x.f5)) (hap : ∀ j b, j ≠ q → j < l.length → v.ownBlock = some b → (V j).ownBlock ≠ some b) :
    NN (sets8 w g (q * 8) x v) base (.slice (some ⟨g, 0, none⟩) (l.set q x).length cap) (l.set q x) (fun j => if j = q then v else V j) := by
  have hg : ∀ u n ys, w.ownsRow base 26 2 u n ys → u.ownBlock ≠ some g := fun u n ys hu hk => by
    obtain ⟨_, _, c, hc⟩ := owns_lt hu hk
    obtain ⟨_, _, d, hd⟩ := owns_lt hown (g := g) rfl
    exact block_ne_of_type hc hd (by decide) rfl
  have hst : ∀ u n ys, w.ownsRow base 26 2 u n ys → (sets8 w g (q * 8) x v).ownsRow base 26 2 u n ys := fun u n ys hu =>
    owns_same hu fun k c f hk _ => sets8_other (by rintro rfl; exact hg u n ys hu hk)
  refine ⟨?_, fun j y hj => ?_, fun i j b hij hi hj h1 h2 => ?_⟩
  · rw [List.length_set]
    have h1 := sets8_owns (o := q * 8) hown x v
    refine owns_cut h1 ?_
    clear h1
    have hlen := pcells_length V l 0
    refine pcells_ext (by simp only [List.length_set]; exact hlen) (fun j i y hj hi => ?_)
    rw [sets8_list (by rw [hlen]; omega)]
    by_cases e : j = q
    · subst e
      rw [List.getElem?_set_self hq, Option.some.injEq] at hj
      rw [← hj, if_pos (by omega), if_pos rfl, show j * 8 + i - j * 8 = i by omega]
    · rw [List.getElem?_set_ne (Ne.symm e)] at hj
      rw [if_neg (by omega), if_neg e, pcells_get V l 0 j i y hj hi, Nat.zero_add]
  · by_cases e : j = q
    · subst e
      rw [List.getElem?_set_self hq, Option.some.injEq] at hj
      show (sets8 w g (j * 8) x v).ownsRow base 26 2 (if j = j then v else V j) y.f5.length (scells y.f5)
      rw [if_pos rfl, ← hj]
      exact hst _ _ _ hin
    · rw [List.getElem?_set_ne (Ne.symm e)] at hj
      show (sets8 w g (q * 8) x v).ownsRow base 26 2 (if j = q then v else V j) y.f5.length (scells y.f5)
      rw [if_neg e]
      exact hst _ _ _ (hinn j y e hj)
  · rw [List.length_set] at hi hj
    change (if i = q then v else V i).ownBlock = some b at h1
    change (if j = q then v else V j).ownBlock = some b at h2
    by_cases e : i = q
    · subst e
      rw [if_pos rfl] at h1
      rw [if_neg (Ne.symm hij)] at h2
      exact hap j b (Ne.symm hij) hj h1 h2
    · rw [if_neg e] at h1
      by_cases e2 : j = q
      · subst e2
        rw [if_pos rfl] at h2
        exact hap i b e hi h2 h1
      · rw [if_neg e2] at h2
        exact hapt i j b hij e e2 hi hj h1 h2
theorem spns_of_owns {w : World} {base n c : Nat} {A : Option Addr} {xs : List SpanS} (h : w.ownsRow base 26 2 (.slice A n c) xs.length (scells xs)) : Spns w A (xs.map spnOf) := by
  intro h0
  rw [List.length_map] at h0
  rcases h.2 with ⟨_, h2⟩ | ⟨g, cap, cur, h1, h2, h3, _⟩
  · omega
  · injection h1 with h1 _ _
    subst h1
    refine ⟨⟨g, 0, rfl⟩, (Array.getElem?_eq_some_iff.1 h3).1, fun k j hk hj => ?_⟩
    rw [List.length_map] at hk
    have h4 := h.cells (g := g) rfl (k * 2 + j) (([.int .i64 xs[k].f0, .int .i64 xs[k].f1] : List Value)[j]'(by exact hj)) (by rw [scells_get xs k j xs[k] (List.getElem?_eq_getElem hk) hj]; exact List.getElem?_eq_getElem _)
    rw [add_lit'] at h4
    have hm := nth_map spnOf hk
    have hj2 : j = 0 ∨ j = 1 := by omega
    rcases hj2 with rfl | rfl
    all_goals (dsimp only; rw [hm])
    · exact cell_off h4 (by show 0 + (k * 2 + 0) = 0 + k * 2 + 0; omega)
    · exact cell_off h4 (by show 0 + (k * 2 + 1) = 0 + k * 2 + 1; omega)
theorem pths_of_cells {w : World} {g : Nat} {l : List PathS} {V : Nat → Value} (hg : g < w.heap.size) (h : ∀ j x, l[j]? = some x → ∀ i u, (pcell x (V j))[i]? = some u → w.cell? ⟨g, j * 8 + i, none⟩ = some u)
    (hin : ∀ j x, l[j]? = some x → ∃ A c, V j = .slice A x.f5.length c ∧ Spns w A (x.f5.map spnOf)) : ∃ B C, Pths w (some ⟨g, 0, none⟩) B C (l.map pthOf) := by
  have key : ∀ k : Nat, ∃ (A7 : Option Addr) (c7 : Nat), ∀ (hk : k < l.length), V k = .slice A7 l[k].f5.length c7 ∧ Spns w A7 (l[k].f5.map spnOf) := by
    intro k
    by_cases hk : k < l.length
    · obtain ⟨A, c, h1, h2⟩ := hin k l[k] (List.getElem?_eq_getElem hk)
      exact ⟨A, c, fun _ => ⟨h1, h2⟩⟩
    · exact ⟨none, 0, fun h => absurd h hk⟩
  refine ⟨fun k => (key k).choose, fun k => (key k).choose_spec.choose, ⟨?_, ?_⟩⟩
  · intro _
    refine ⟨⟨g, 0, rfl⟩, hg, fun k j hk hj => ?_⟩
    rw [List.length_map] at hk
    obtain ⟨hV, _⟩ := (key k).choose_spec.choose_spec hk
    have hcell := h k l[k] (List.getElem?_eq_getElem hk)
    rw [hV] at hcell
    have hj8 : j = 0 ∨ j = 1 ∨ j = 2 ∨ j = 3 ∨ j = 4 ∨ j = 5 ∨ j = 6 ∨ j = 7 := by omega
    have hm := nth_map pthOf hk
    rcases hj8 with rfl | rfl | rfl | rfl | rfl | rfl | rfl | rfl
    all_goals (dsimp only [pathCell]; rw [hm])
    · exact cell_off (hcell 0 _ rfl) (by show k * 8 + 0 = 0 + k * 8 + 0; omega)
    · exact cell_off (hcell 1 _ rfl) (by show k * 8 + 1 = 0 + k * 8 + 1; omega)
    · exact cell_off (hcell 2 _ rfl) (by show k * 8 + 2 = 0 + k * 8 + 2; omega)
    · exact cell_off (hcell 3 _ rfl) (by show k * 8 + 3 = 0 + k * 8 + 3; omega)
    · exact cell_off (hcell 4 _ rfl) (by show k * 8 + 4 = 0 + k * 8 + 4; omega)
    · exact cell_off (hcell 5 _ rfl) (by show k * 8 + 5 = 0 + k * 8 + 5; omega)
    · exact cell_off (hcell 6 _ rfl) (by show k * 8 + 6 = 0 + k * 8 + 6; omega)
    · have e : (pthOf l[k]).opens.length = l[k].f5.length := by simp [pthOf]
      rw [e]
      exact cell_off (hcell 7 _ rfl) (by show k * 8 + 7 = 0 + k * 8 + 7; omega)
  · intro k hk
    rw [List.length_map] at hk
    obtain ⟨_, hop⟩ := (key k).choose_spec.choose_spec hk
    rw [nth_map pthOf hk]
    exact hop
theorem sets8_ext {a w : World} {g o : Nat} {x : PathS} {v : Value} (h : Ext a w) (hg : a.heap.size ≤ g) : Ext a (sets8 w g o x v) :=
  (((((((h.setCell (p := ⟨g, o, none⟩) hg _).setCell (p := ⟨g, o + 1, none⟩) hg _).setCell (p := ⟨g, o + 2, none⟩) hg _).setCell (p := ⟨g, o + 3, none⟩) hg _).setCell (p := ⟨g, o + 4, none⟩) hg _).setCell (p := ⟨g, o + 5, none⟩) hg _).setCell (p := ⟨g, o + 6, none⟩) hg _).setCell (p := ⟨g, o + 7, none⟩) hg _
theorem pths_push {w : World} {base g n cap cm : Nat} {l : List PathS} {V : Nat → Value} {m : PathS} {Am : Option Addr} (hown : w.ownsRow base 34 8 (.slice (some ⟨g, 0, none⟩) n cap) (l.length + 1) (pcells V 0 l ++ pcell m (.slice Am m.f5.length cm)))
    (hin : ∀ j x, l[j]? = some x → ∃ A c, V j = .slice A x.f5.length c ∧ Spns w A (x.f5.map spnOf)) (hm : Spns w Am (m.f5.map spnOf)) :
    (∃ B C, Pths w (some ⟨g, 0, none⟩) B C ((l ++ [m]).map pthOf)) ∧ ∃ B C, Pths w (some ⟨g, 0, none⟩) B C (l.map pthOf) := by
  obtain ⟨_, hlt, _⟩ := owns_lt hown (g := g) rfl
  obtain ⟨V', hV'⟩ : ∃ V' : Nat → Value, V' = fun j => if j = l.length then .slice Am m.f5.length cm else V j := ⟨_, rfl⟩
  have e1 : pcells V 0 l = pcells V' 0 l := pcells_congr (fun j hj => by rw [hV']; dsimp only; rw [if_neg (by omega)])
  have e2 : V' l.length = .slice Am m.f5.length cm := by rw [hV']; dsimp only; rw [if_pos rfl]
  have e3 : pcells V 0 l ++ pcell m (.slice Am m.f5.length cm) = pcells V' 0 (l ++ [m]) := by rw [pcells_snoc, Nat.zero_add, e2, e1]
  have hc : ∀ k u, (pcells V' 0 (l ++ [m]))[k]? = some u → w.cell? ⟨g, k, none⟩ = some u := fun k u hu => by
    have h1 := hown.cells (g := g) rfl k u (by rw [e3]; exact hu)
    rwa [add_lit', Nat.zero_add] at h1
  have hc2 : ∀ j x, (l ++ [m])[j]? = some x → ∀ i u, (pcell x (V' j))[i]? = some u → w.cell? ⟨g, j * 8 + i, none⟩ = some u := fun j x hx i u hu =>
    hc _ _ (by rw [pcells_get V' _ 0 j i x hx (List.getElem?_eq_some_iff.1 hu).1, Nat.zero_add]; exact hu)
  have hl : ∀ j x, l[j]? = some x → (l ++ [m])[j]? = some x ∧ V' j = V j := fun j x hx => by
    have hj := (List.getElem?_eq_some_iff.1 hx).1
    refine ⟨by rw [List.getElem?_append_left hj]; exact hx, ?_⟩
    rw [hV']; dsimp only; rw [if_neg (by omega)]
  refine ⟨pths_of_cells hlt hc2 (fun j x hx => ?_), pths_of_cells hlt (fun j x hx => hc2 j x (hl j x hx).1) (fun j x hx => ?_)⟩
  · by_cases hj : j < l.length
    · rw [List.getElem?_append_left hj] at hx
      rw [(hl j x hx).2]
      exact hin j x hx
    · have hj2 := (List.getElem?_eq_some_iff.1 hx).1
      simp only [List.length_append, List.length_singleton] at hj2
      have e : j = l.length := by omega
      subst e
      rw [List.getElem?_append_right (Nat.le_refl _)] at hx
      simp at hx
      subst hx
      rw [e2]
      exact ⟨Am, cm, rfl, hm⟩
  · rw [(hl j x hx).2]
    exact hin j x hx
end Go.Proofs.Ytnjlpkdpmbpblaa
