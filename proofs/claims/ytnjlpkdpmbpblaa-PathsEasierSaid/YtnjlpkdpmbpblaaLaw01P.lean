/- Plain: who starts later does not arrive sooner; over an easier net nobody arrives later. Conditions: what the law asks of its arguments. -/
import Derived.Test.YtnjlpkdpmbpblaaEased
import Derived.Test.YtnjlpkdpmbpblaaFound
set_option linter.unusedVariables false
set_option linter.unusedSimpArgs false
namespace Go.Proofs.Ytnjlpkdpmbpblaa
open Go.RowKit
section
variable {n : Nt} {p : Pty} {frm : Int}
theorem arr_top (hok : netOk n = true) (hpk : partyOk p = true) {hi : Bool} {start : Int} (hf : 0 ≤ frm ∧ frm ≤ n.places - 1) (hs : 0 ≤ start ∧ start ≤ 2880) {l : List Int} (ha : Arr n p hi (-1) frm start l) : Good n l := by
  obtain ⟨⟨K, hK⟩, _⟩ := ha
  rw [hK]
  exact good_rounds hok hpk (good_startAt (by omega) hs) K
theorem arr_start (hok : netOk n = true) {hi : Bool} {start : Int} {l : List Int} (ha : Arr n p hi (-1) frm start l) (j : Nat) : nth l j ≤ nth (startAt n frm start) j := by
  obtain ⟨⟨K, hK⟩, _⟩ := ha
  rw [hK]
  exact rounds_le (by rw [startAt_length]; exact inDst_of_ok hok) j K
/-- who starts later does not arrive sooner -/
theorem later_le (hok : netOk n = true) (hpk : partyOk p = true) {s1 s2 : Int} (hf : 0 ≤ frm ∧ frm ≤ n.places - 1) (h1 : 0 ≤ s1 ∧ s1 ≤ 2880) (h2 : 0 ≤ s2 ∧ s2 ≤ 2880) (hle : s1 ≤ s2) {l1 l2 : List Int}
    (ha1 : Arr n p true (-1) frm s1 l1) (ha2 : Arr n p true (-1) frm s2 l2) (j : Nat) (hj : j < n.places.toNat) : nth l1 j ≤ nth l2 j := by
  have hfN : frm.toNat < n.places.toNat := by omega
  have hlen := ha1.length
  have hst := arr_start hok ha1
  obtain ⟨_, hr⟩ := ha1
  obtain ⟨⟨K, hK⟩, _⟩ := ha2
  have hdl : InDst n l1.length := by rw [hlen]; exact inDst_of_ok hok
  have hb := below_rounds (n := n) (p := p) (hi := true) (but := -1) (B := l1) (l := startAt n frm s2) (by rw [startAt_length]; exact inDst_of_ok hok) (fun i hi => by rw [startAt_length]; exact frm_of_ok hok hi)
    (fun q hq => by
      rw [startAt_length] at hq
      refine Int.le_trans (hst q) ?_
      rw [nth_startAt hfN q hq, nth_startAt hfN q hq]
      split <;> omega)
    (top_startAt hfN (by unfold neverN; omega))
    (fun i hi hne hg a ha1 ha2 => by
      have hc := closed_of_fix (p := p) (hi := true) (but := -1) hdl hr hi hne hg (by omega)
      exact Int.le_trans hc (arrive_mono _ ha1)) K
  rw [← hK] at hb
  exact hb j (by rw [hK, rounds_length, startAt_length]; exact hj)
end
/-- a path that is no harder -/
def Easier (x x' : Pth) : Prop := x'.frm = x.frm ∧ x'.dst = x.dst ∧ x'.grade ≤ x.grade ∧ x'.time = x.time ∧ x'.snow.hi ≤ x.snow.hi ∧ ∃ e, x'.opens = x.opens ++ e
theorem easier_refl (x : Pth) : Easier x x := ⟨rfl, rfl, Int.le_refl _, rfl, Int.le_refl _, [], by simp⟩
theorem time_mono {t pace snow load pace' snow' load' : Int} (ht : 1 ≤ t) (hp : 50 ≤ pace') (hs : 0 ≤ snow') (hl : 0 ≤ load') (h1 : pace' ≤ pace) (h2 : snow' ≤ snow) (h3 : load' ≤ load) : timeOf t pace' snow' load' ≤ timeOf t pace snow load := by
  have a1 : t * pace' ≤ t * pace := Int.mul_le_mul_of_nonneg_left h1 (by omega)
  have a0 : 0 ≤ t * pace := Int.mul_nonneg (by omega) (by omega)
  have a2 : t * pace' * (100 + 5 * snow' + load') ≤ t * pace * (100 + 5 * snow + load) := Int.mul_le_mul a1 (by omega) (by omega) a0
  unfold timeOf
  omega
/-- over an easier net nobody arrives later -/
theorem easier_le {n m : Nt} {p q : Pty} {frm start : Int} (hok : netOk n = true) (hom : netOk m = true) (hpk : partyOk p = true) (hqk : partyOk q = true) (hpl : m.places = n.places) (hlen : n.paths.length ≤ m.paths.length)
    (hE : ∀ i, i < n.paths.length → Easier (nth n.paths i) (nth m.paths i)) (hg : q.grade = p.grade) (hl : q.load ≤ p.load) (hpa : q.pace.hi ≤ p.pace.hi) (hf : 0 ≤ frm ∧ frm ≤ n.places - 1) (hs : 0 ≤ start ∧ start ≤ 2880) {l1 l3 : List Int}
    (ha1 : Arr n p true (-1) frm start l1) (ha3 : Arr m q true (-1) frm start l3) (j : Nat) (hj : j < n.places.toNat) : nth l3 j ≤ nth l1 j := by
  have hfN : frm.toNat < n.places.toNat := by omega
  have hlen3 := ha3.length
  have hst := arr_start hom ha3
  have hgd := arr_top hom hqk (by rw [hpl]; exact hf) hs ha3
  obtain ⟨_, hr⟩ := ha3
  obtain ⟨⟨K, hK⟩, _⟩ := ha1
  have hse : startAt m frm start = startAt n frm start := by unfold startAt; rw [hpl]
  have hdl : InDst m l3.length := by rw [hlen3]; exact inDst_of_ok hom
  obtain ⟨_, ⟨q1, q2, q3⟩, ⟨q4, q5⟩⟩ := partyOk_iff.1 hqk
  have hb := below_rounds (n := n) (p := p) (hi := true) (but := -1) (B := l3) (l := startAt n frm start) (by rw [startAt_length]; exact inDst_of_ok hok) (fun i hi => by rw [startAt_length]; exact frm_of_ok hok hi)
    (fun k _ => by rw [← hse]; exact hst k)
    (top_startAt hfN (by unfold neverN; omega))
    (fun i hi hne hgr a h1 h2 => by
      obtain ⟨e1, e2, e3, e4, e5, e, e6⟩ := hE i hi
      have him : i < m.paths.length := by omega
      have hc := closed_of_fix (p := q) (hi := true) (but := -1) hdl hr him hne (by omega) (by rw [e1]; omega)
      rw [e1, e2] at hc
      obtain ⟨_, _, _, _, ⟨t1, t2, t3⟩, ⟨s1, s2, s3⟩, _, _⟩ := pathOk_iff.1 ((netOk_iff.1 hom).2.2 _ (nth_mem him))
      have ht : endOf true (spanOf q (nth m.paths i)) ≤ endOf true (spanOf p (nth n.paths i)) := by
        show timeOf _ _ _ _ ≤ timeOf _ _ _ _
        rw [e4]
        rw [e4] at t1 t2
        exact time_mono (by omega) (by omega) (by omega) q4 hpa e5 hl
      have hen : enterOf (nth m.paths i).opens (nth l3 (nth n.paths i).frm.toNat) ≤ enterOf (nth n.paths i).opens a := by
        rw [e6]
        exact Int.le_trans (enter_append_le _ _ _) (enterOf_mono_at _ h1 (Int.le_refl _))
      rcases arriveOf_mono hen ht with h3 | h3
      · exact Int.le_trans hc h3
      · rw [h3]
        have hfr := frm_of_ok hok hi
        have hdst := inDst_of_ok hok i hi
        exact hgd.2.2 _ (by rw [hgd.1, hpl]; exact hdst)) K
  rw [← hK] at hb
  exact hb j (by rw [hK, rounds_length, startAt_length]; exact hj)
/-! the eased net -/
section
variable {places : Int} {l : List PathS} {y : Eas}
theorem easedB_length (l : List PathS) (y : Eas) : (easedB l y).length = l.length := by unfold easedB; split <;> simp
theorem easedB_get {j : Nat} (hj : j < l.length) : (easedB l y)[j]'(by rw [easedB_length]; exact hj) = l[j] ∨ (easedB l y)[j]'(by rw [easedB_length]; exact hj) = easedX l[j] y := by
  by_cases h : 0 ≤ y.path ∧ y.path < l.length
  · by_cases e : y.path.toNat = j
    · subst e
      right
      simp only [easedB, dif_pos h, List.getElem_set_self]
    · left
      simp only [easedB, dif_pos h, List.getElem_set_ne e]
  · left
    simp only [easedB, dif_neg h]
theorem easedX_easier (x : PathS) (hy : 0 ≤ y.grade ∧ 0 ≤ y.snow) (h1 : 1 ≤ x.f2) (h2 : 0 ≤ x.f4.f1) : Easier (pthOf x) (pthOf (easedX x y)) := by
  refine ⟨rfl, rfl, ?_, rfl, ?_, ?_⟩
  · show max 1 (x.f2 - y.grade) ≤ x.f2; omega
  · show max 0 (x.f4.f1 - y.snow) ≤ x.f4.f1; omega
  · show ∃ e, (easedX x y).f5.map spnOf = x.f5.map spnOf ++ e
    unfold easedX
    dsimp only
    split
    · exact ⟨[spnOf ⟨y.opens, min 2880 (y.opens + 60)⟩], by simp⟩
    · exact ⟨[], by simp⟩
theorem easedX_ok (x : PathS) (hy : 0 ≤ y.grade ∧ 0 ≤ y.snow) (h : pathOk places (pthOf x) = true) : pathOk places (pthOf (easedX x y)) = true := by
  obtain ⟨a1, a2, a3, a4, a5, a6, a7, a8⟩ := pathOk_iff.1 h
  have b4 : 1 ≤ x.f2 ∧ x.f2 ≤ 6 := a4
  have b6 : 0 ≤ x.f4.f0 ∧ x.f4.f0 ≤ x.f4.f1 ∧ x.f4.f1 ≤ 30 := a6
  have b7 : (x.f5.map spnOf).length ≤ 6 := a7
  have b8 : ∀ s ∈ x.f5.map spnOf, 0 ≤ s.lo ∧ s.lo ≤ s.hi ∧ s.hi ≤ 2880 := a8
  refine pathOk_iff.2 ⟨a1, a2, a3, ?_, a5, ?_, ?_, ?_⟩
  · show 1 ≤ max 1 (x.f2 - y.grade) ∧ max 1 (x.f2 - y.grade) ≤ 6; omega
  · show 0 ≤ max 0 (x.f4.f0 - y.snow) ∧ max 0 (x.f4.f0 - y.snow) ≤ max 0 (x.f4.f1 - y.snow) ∧ max 0 (x.f4.f1 - y.snow) ≤ 30; omega
  · show ((easedX x y).f5.map spnOf).length ≤ 6
    rw [List.length_map] at b7 ⊢
    unfold easedX
    dsimp only
    split
    · rename_i hh; rw [List.length_append]; simp only [List.length_singleton]; omega
    · exact b7
  · show ∀ s ∈ (easedX x y).f5.map spnOf, 0 ≤ s.lo ∧ s.lo ≤ s.hi ∧ s.hi ≤ 2880
    unfold easedX
    dsimp only
    split
    · rename_i hh
      intro s hs
      rw [List.map_append] at hs
      rcases List.mem_append.1 hs with hs | hs
      · exact b8 s hs
      · have e : s = spnOf ⟨y.opens, min 2880 (y.opens + 60)⟩ := by simpa using hs
        subst e
        show 0 ≤ y.opens ∧ y.opens ≤ min 2880 (y.opens + 60) ∧ min 2880 (y.opens + 60) ≤ 2880
        omega
    · exact b8
theorem easedB_ok (hy : 0 ≤ y.grade ∧ 0 ≤ y.snow) (h : netOk (ntOf places l) = true) : netOk (ntOf places (easedB l y)) = true := by
  obtain ⟨h1, h2, h3⟩ := netOk_iff.1 h
  refine netOk_iff.2 ⟨h1, ?_, ?_⟩
  · simp only [ntOf, List.length_map] at h2 ⊢
    rw [easedB_length]; exact h2
  · intro s hs
    have hs' : s ∈ (easedB l y).map pthOf := hs
    obtain ⟨x, hx, rfl⟩ := List.mem_map.1 hs'
    obtain ⟨j, hj, rfl⟩ := List.getElem_of_mem hx
    rw [easedB_length] at hj
    have ho : pathOk places (pthOf l[j]) = true := h3 _ (List.mem_map_of_mem (List.getElem_mem hj))
    rcases easedB_get (y := y) hj with e | e
    · rw [e]; exact ho
    · rw [e]; exact easedX_ok _ hy ho
theorem easedL_ok (hy : 0 ≤ y.grade ∧ 0 ≤ y.snow) (h : netOk (ntOf places l) = true) : netOk (ntOf places (easedL places l y)) = true := by
  unfold easedL
  split
  · rename_i h1; exact h1
  · exact easedB_ok hy h
theorem easedL_prefix : ∃ e, easedL places l y = easedB l y ++ e := by
  unfold easedL
  split
  · exact ⟨_, rfl⟩
  · exact ⟨[], by simp⟩
theorem easedL_easier (hy : 0 ≤ y.grade ∧ 0 ≤ y.snow) (h : netOk (ntOf places l) = true) (i : Nat) (hi : i < l.length) : Easier (nth (ntOf places l).paths i) (nth (ntOf places (easedL places l y)).paths i) := by
  obtain ⟨e, he⟩ := easedL_prefix (places := places) (l := l) (y := y)
  have hib : i < (easedB l y).length := by rw [easedB_length]; exact hi
  have h1 : nth (ntOf places (easedL places l y)).paths i = pthOf ((easedB l y)[i]) := by
    show nth ((easedL places l y).map pthOf) i = _
    rw [nth_map pthOf (by rw [he, List.length_append]; omega)]
    simp only [he]
    rw [List.getElem_append_left hib]
  have h2 : nth (ntOf places l).paths i = pthOf l[i] := nth_map pthOf hi
  rw [h1, h2]
  have ho : pathOk places (pthOf l[i]) = true := (netOk_iff.1 h).2.2 _ (List.mem_map_of_mem (List.getElem_mem hi))
  obtain ⟨_, _, _, a4, _, a6, _, _⟩ := pathOk_iff.1 ho
  have b4 : 1 ≤ l[i].f2 ∧ l[i].f2 ≤ 6 := a4
  have b6 : 0 ≤ l[i].f4.f0 ∧ l[i].f4.f0 ≤ l[i].f4.f1 ∧ l[i].f4.f1 ≤ 30 := a6
  rcases easedB_get (y := y) hi with e | e
  · rw [e]; exact easier_refl _
  · rw [e]; exact easedX_easier _ hy b4.1 (by omega)
theorem easedL_length : l.length ≤ (easedL places l y).length := by
  obtain ⟨e, he⟩ := easedL_prefix (places := places) (l := l) (y := y)
  rw [he, List.length_append, easedB_length]
  omega
end
def easedP (p : Pty) (y : Eas) : Pty := ⟨p.grade, max 0 (p.load - y.load), ⟨max 50 (p.pace.lo - y.pace), max 50 (p.pace.hi - y.pace)⟩⟩
theorem easedP_ok {p : Pty} {y : Eas} (h : partyOk p = true) (h1 : 0 ≤ y.pace) (h2 : 0 ≤ y.load) : partyOk (easedP p y) = true := by
  obtain ⟨a, ⟨b1, b2, b3⟩, ⟨c1, c2⟩⟩ := partyOk_iff.1 h
  refine partyOk_iff.2 ⟨a, ?_, ?_⟩
  · show 50 ≤ max 50 (p.pace.lo - y.pace) ∧ max 50 (p.pace.lo - y.pace) ≤ max 50 (p.pace.hi - y.pace) ∧ max 50 (p.pace.hi - y.pace) ≤ 300; omega
  · show 0 ≤ max 0 (p.load - y.load) ∧ max 0 (p.load - y.load) ≤ 40; omega
/-- what the law says of one place -/
theorem told_le {a b : Int} (ha : 0 ≤ a) (hb : b ≤ neverN) (h : a ≤ b) : (told1 b ≥ 0 → 0 ≤ told1 a ∧ told1 a ≤ told1 b) := by
  unfold told1
  intro h1
  split at h1
  · omega
  · rename_i hb'
    rw [if_neg (by omega), if_neg hb']
    exact ⟨ha, h⟩
end Go.Proofs.Ytnjlpkdpmbpblaa
