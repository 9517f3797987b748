/- Plain: a place that is reached at all is reached at its lowest arrival on a route of fewer paths than there are places. Conditions: net, party, place and minute are valid. -/
import Derived.Test.YtnjlpkdpmbpblaaSteps
set_option linter.unusedVariables false
set_option linter.unusedSimpArgs false
namespace Go.Proofs.Ytnjlpkdpmbpblaa
theorem countP_lt {l : List Int} {p q : Int → Bool} (h : ∀ x, p x = true → q x = true) {x : Int} (hx : x ∈ l) (h1 : q x = true) (h2 : p x = false) : l.countP p < l.countP q := by
  induction l with
  | nil => cases hx
  | cons y t ih =>
    have hm : t.countP p ≤ t.countP q := List.countP_mono_left (fun z _ => h z)
    rw [List.countP_cons, List.countP_cons]
    rcases List.mem_cons.1 hx with rfl | hx
    · rw [h1, h2]; simp; omega
    · have h3 := ih hx
      have h4 : (if p y = true then 1 else 0) ≤ (if q y = true then 1 else 0) := by
        by_cases e : p y = true
        · rw [if_pos e, if_pos (h y e)]; exact Nat.le_refl _
        · rw [if_neg e]; exact Nat.zero_le _
      omega
/-- how many are lower -/
def rankOf (l : List Int) (v : Int) : Nat := l.countP fun x => decide (x < v)
theorem rankOf_lt {l : List Int} {u v : Int} (hu : u ∈ l) (h : u < v) : rankOf l u < rankOf l v := by
  refine countP_lt (fun x hx => ?_) hu (by simpa using h) (by simp)
  simp only [decide_eq_true_eq] at hx ⊢
  omega
theorem rankOf_len {l : List Int} {v : Int} (hv : v ∈ l) : rankOf l v < l.length := by
  have h := countP_lt (l := l) (p := fun x => decide (x < v)) (q := fun _ => true) (fun _ _ => rfl) hv rfl (by simp)
  rwa [List.countP_true] at h
section
variable {n : Nt} {p : Pty}
theorem mem_ways {k i : Nat} (hk : k ≤ n.paths.length) (hi : i < k) (hg : (nth n.paths i).grade ≤ p.grade) : (⟨i, by omega⟩ : Pix n) ∈ waysTo n p (-1) k := by
  induction k with
  | zero => omega
  | succ k ih =>
    have hu : i = k → usable n p (-1) k = true := by
      rintro rfl
      simp [usable, hg]
    rw [waysTo]
    by_cases e : i = k
    · subst e
      rw [dif_pos ⟨by omega, hu rfl⟩]
      simp
    · split
      · exact List.mem_append_left _ (ih (by omega) (by omega))
      · exact ih (by omega) (by omega)
theorem ways_grade {x : Pix n} : ∀ k, x ∈ waysTo n p (-1) k → (nth n.paths x.1).grade ≤ p.grade
  | 0, h => by cases h
  | k + 1, h => by
    rw [waysTo] at h
    split at h
    · rename_i hc
      rcases List.mem_append.1 h with h | h
      · exact ways_grade k h
      · have e := List.mem_singleton.1 h
        have h1 := hc.2
        simp only [usable, Bool.and_eq_true, decide_eq_true_eq] at h1
        rw [e]
        exact h1.2
    · exact ways_grade k h
theorem stepU_le (now next : List Int) {i : Nat} (hd : (nth n.paths i).dst.toNat < next.length) (j : Nat) : nth (stepU n p now next i) j ≤ nth next j := by
  unfold stepU
  split
  · exact Int.le_refl _
  · rw [nth_set hd]
    split
    · rename_i e; rw [← e]; omega
    · exact Int.le_refl _
theorem stepU_length (now next : List Int) (i : Nat) : (stepU n p now next i).length = next.length := by unfold stepU; split <;> simp
theorem stepL_length (now : List Int) (pre : List (Pix n)) : ∀ next, (stepL p now next pre).length = next.length := by
  induction pre with
  | nil => intro; rfl
  | cons x pre ih => intro next; show (stepL p now (stepU n p now next x.1) pre).length = _; rw [ih, stepU_length]
theorem stepL_le (now : List Int) (pre : List (Pix n)) (j : Nat) : ∀ next, InDst n next.length → nth (stepL p now next pre) j ≤ nth next j := by
  induction pre with
  | nil => intro _ _; exact Int.le_refl _
  | cons x pre ih =>
    intro next hd
    exact Int.le_trans (ih (stepU n p now next x.1) (by rw [stepU_length]; exact hd)) (stepU_le now next (hd x.1 x.2) j)
theorem stepL_hit (now : List Int) {x : Pix n} (hn : nth now (nth n.paths x.1).frm.toNat ≠ neverN) (pre : List (Pix n)) : ∀ next, InDst n next.length → x ∈ pre →
    nth (stepL p now next pre) (nth n.paths x.1).dst.toNat ≤ arriveOf (nth n.paths x.1) (nth now (nth n.paths x.1).frm.toNat) (spanOf p (nth n.paths x.1)).hi := by
  induction pre with
  | nil => intro _ _ h; cases h
  | cons y pre ih =>
    intro next hd hx
    have hd' : InDst n (stepU n p now next y.1).length := by rw [stepU_length]; exact hd
    rcases List.mem_cons.1 hx with rfl | hx
    · refine Int.le_trans (stepL_le now pre _ (stepU n p now next x.1) hd') ?_
      have e : stepU n p now next x.1 = next.set (nth n.paths x.1).dst.toNat (min (nth next (nth n.paths x.1).dst.toNat) (arriveOf (nth n.paths x.1) (nth now (nth n.paths x.1).frm.toNat) (spanOf p (nth n.paths x.1)).hi)) := if_neg hn
      rw [e, nth_set (hd x.1 x.2), if_pos rfl]
      omega
    · exact ih _ hd' hx
theorem arrive_mono (x : Pth) {a b t : Int} (h : a ≤ b) : arriveOf x a t ≤ arriveOf x b t := by
  have h1 := enterOf_mono_at x.opens h (Int.le_refl neverN)
  have h2 := arriveOf_le x a t
  rcases arriveOf_mono (x := x) (y := x) (a := b) (b := a) (t := t) (u := t) h1 (Int.le_refl _) with h3 | h3
  · exact h3
  · omega
theorem time_pos {t pace snow load : Int} (ht : 1 ≤ t) (hp : 50 ≤ pace) (hs : 0 ≤ snow) (hl : 0 ≤ load) : 1 ≤ timeOf t pace snow load := by
  have h1 : 1 * 50 ≤ t * pace := Int.mul_le_mul ht hp (by omega) (by omega)
  have h2 : 50 * 100 ≤ t * pace * (100 + 5 * snow + load) := Int.mul_le_mul (by omega) (by omega) (by omega) (by omega)
  unfold timeOf
  omega
theorem span_pos (hok : netOk n = true) (hpk : partyOk p = true) {i : Nat} (hi : i < n.paths.length) : 1 ≤ (spanOf p (nth n.paths i)).hi := by
  obtain ⟨_, _, hall⟩ := netOk_iff.1 hok
  obtain ⟨_, _, _, _, ⟨t1, t2, t3⟩, ⟨s1, s2, s3⟩, _, _⟩ := pathOk_iff.1 (hall _ (nth_mem hi))
  obtain ⟨_, ⟨q1, q2, q3⟩, l⟩ := partyOk_iff.1 hpk
  exact time_pos (by omega) (by omega) (by omega) l.1
theorem arrive_gt {x : Pth} {a t : Int} (ha : a ≤ neverN) (ht : 1 ≤ t) (h : arriveOf x a t ≠ neverN) : a < arriveOf x a t := by
  have h1 := enter_ge x.opens ha
  unfold arriveOf enterOf at *
  split
  · rename_i e; rw [if_pos e] at h; exact absurd rfl h
  · omega
/-- where an entry comes from -/
def Par (n : Nt) (p : Pty) (f : Nat) (start : Int) (l : List Int) (j : Nat) : Prop :=
  nth l j = neverN ∨ (j = f ∧ nth l j = start) ∨ ∃ i v, i < n.paths.length ∧ (nth n.paths i).grade ≤ p.grade ∧ (nth n.paths i).dst.toNat = j ∧ nth l (nth n.paths i).frm.toNat ≤ v ∧ v < neverN ∧ nth l j = arriveOf (nth n.paths i) v (spanOf p (nth n.paths i)).hi
theorem par_relax (hok : netOk n = true) {f : Nat} {start : Int} {l : List Int} (hl : l.length = n.places.toNat) (hT : Top l) {i : Nat} (hi : i < n.paths.length) {j : Nat} (h : Par n p f start l j) : Par n p f start (relax n p true (-1) l i) j := by
  have hd : (nth n.paths i).dst.toNat < l.length := by rw [hl]; exact inDst_of_ok hok i hi
  have hf : (nth n.paths i).frm.toNat < l.length := by rw [hl]; exact frm_of_ok hok hi
  have hle := fun q => relax_le (n := n) (p := p) (hi := true) (but := -1) l i hd q
  by_cases hc : ((i : Int) ≠ -1 ∧ (nth n.paths i).grade ≤ p.grade ∧ nth l (nth n.paths i).frm.toNat ≠ neverN ∧ arriveOf (nth n.paths i) (nth l (nth n.paths i).frm.toNat) (endOf true (spanOf p (nth n.paths i))) < nth l (nth n.paths i).dst.toNat)
  · have he : relax n p true (-1) l i = l.set (nth n.paths i).dst.toNat (arriveOf (nth n.paths i) (nth l (nth n.paths i).frm.toNat) (endOf true (spanOf p (nth n.paths i)))) := by
      unfold relax; dsimp only; rw [if_pos hc]
    by_cases e : (nth n.paths i).dst.toNat = j
    · refine .inr (.inr ⟨i, nth l (nth n.paths i).frm.toNat, hi, hc.2.1, e, hle _, ?_, ?_⟩)
      · have := hT _ hf
        have := hc.2.2.1
        omega
      · rw [he, nth_set hd, if_pos e]; rfl
    · have hj : nth (relax n p true (-1) l i) j = nth l j := by rw [he, nth_set hd, if_neg e]
      rcases h with h | ⟨h1, h2⟩ | ⟨q, v, h1, h2, h3, h4, h5, h6⟩
      · exact .inl (hj.trans h)
      · exact .inr (.inl ⟨h1, hj.trans h2⟩)
      · exact .inr (.inr ⟨q, v, h1, h2, h3, Int.le_trans (hle _) h4, h5, hj.trans h6⟩)
  · have he : relax n p true (-1) l i = l := by unfold relax; dsimp only; rw [if_neg hc]
    rw [he]; exact h
theorem par_rounds (hok : netOk n = true) (hpk : partyOk p = true) {f : Nat} {start : Int} {l : List Int} (hg : Good n l) {j : Nat} (h : Par n p f start l j) : ∀ k, Par n p f start (rounds n p true (-1) l k) j
  | 0 => h
  | k + 1 => by
    have hgk := good_rounds (hi := true) (but := -1) hok hpk hg k
    have ih := par_rounds hok hpk hg h k
    rw [rounds, round]
    generalize rounds n p true (-1) l k = m at *
    have key : ∀ q, q ≤ n.paths.length → Par n p f start (relaxTo n p true (-1) m q) j := by
      intro q
      induction q with
      | zero => intro _; exact ih
      | succ q ihq =>
        intro hq
        have hgq := good_relaxTo (hi := true) (but := -1) hok hpk hgk q (by omega)
        exact par_relax hok hgq.1 hgq.2.2 (by omega) (ihq (by omega))
    exact key _ (Nat.le_refl _)
/-- what is closed lies below all steps -/
theorem steps_ge (hok : netOk n = true) (hpk : partyOk p = true) {frm start : Int} (hf : 0 ≤ frm ∧ frm ≤ n.places - 1) (hs : 0 ≤ start ∧ start ≤ 2880) {l : List Int} (ha : Arr n p true (-1) frm start l) : ∀ k j, j < n.places.toNat → nth l j ≤ nth (stepF n p frm start k) j := by
  have hlen := ha.length
  have hfN : frm.toNat < n.places.toNat := by omega
  obtain ⟨⟨K, hK⟩, hr⟩ := ha
  have hgl : Good n l := hK ▸ good_rounds (hi := true) (but := -1) hok hpk (good_startAt hfN hs) K
  have hdl : InDst n l.length := by rw [hlen]; exact inDst_of_ok hok
  intro k
  induction k with
  | zero =>
    intro j _
    have := rounds_le (n := n) (p := p) (hi := true) (but := -1) (l := startAt n frm start) (by rw [startAt_length]; exact inDst_of_ok hok) j K
    rw [← hK] at this
    exact this
  | succ k ih =>
    have hgk := good_stepF hok hpk hfN hs k
    have key : ∀ (pre : List (Pix n)), (∀ x ∈ pre, (nth n.paths x.1).grade ≤ p.grade) → ∀ next, next.length = n.places.toNat → (∀ j, j < n.places.toNat → nth l j ≤ nth next j) → ∀ j, j < n.places.toNat → nth l j ≤ nth (stepL p (stepF n p frm start k) next pre) j := by
      intro pre
      induction pre with
      | nil => exact fun _ _ _ h => h
      | cons x pre ihp =>
        intro hgs next hln hb
        have hgr := hgs x List.mem_cons_self
        refine ihp (fun y hy => hgs y (List.mem_cons_of_mem _ hy)) (stepU n p (stepF n p frm start k) next x.1) (by rw [stepU_length]; exact hln) (fun j hj => ?_)
        unfold stepU
        split
        · exact hb j hj
        · rename_i hnv
          have hd : (nth n.paths x.1).dst.toNat < next.length := by rw [hln]; exact inDst_of_ok hok x.1 x.2
          rw [nth_set hd]
          split
          · rename_i e
            have h1 := hb j hj
            have hfx := frm_of_ok hok x.2
            have h2 := ih _ hfx
            have h3 := hgk.2.2 (nth n.paths x.1).frm.toNat (by rw [hgk.1]; exact hfx)
            have hnv' : nth (stepF n p frm start k) (nth n.paths x.1).frm.toNat ≠ neverN := hnv
            have h4 := closed_of_fix (p := p) (hi := true) (but := -1) hdl hr x.2 (by omega) hgr (by omega)
            have h5 := arrive_mono (nth n.paths x.1) (t := (spanOf p (nth n.paths x.1)).hi) h2
            rw [e] at h4
            have h6 : endOf true (spanOf p (nth n.paths x.1)) = (spanOf p (nth n.paths x.1)).hi := rfl
            rw [h6] at h4
            rw [e]
            omega
          · exact hb j hj
    exact key _ (fun x hx => ways_grade _ hx) _ (by simp) (fun j hj => by rw [nth_replicate _ _ _ hj]; exact hgl.2.2 j (by rw [hlen]; exact hj))
/-- what is reached is reached soonest by fewer paths than there are places -/
theorem found (hok : netOk n = true) (hpk : partyOk p = true) {frm start to : Int} (hf : 0 ≤ frm ∧ frm ≤ n.places - 1) (hs : 0 ≤ start ∧ start ≤ 2880) (ht : 0 ≤ to ∧ to ≤ n.places - 1) :
    ∀ l, Arr n p true (-1) frm start l → nth l to.toNat ≠ neverN → ∃ k, k < n.places.toNat ∧ nth (stepF n p frm start k) to.toNat = nth l to.toNat := by
  intro l ha hnv
  have hge := steps_ge hok hpk hf hs ha
  have hlen := ha.length
  have hfN : frm.toNat < n.places.toNat := by omega
  have htN : to.toNat < n.places.toNat := by omega
  obtain ⟨⟨K, hK⟩, hr⟩ := ha
  have hg0 := good_startAt (n := n) (frm := frm) (start := start) hfN hs
  have hgl : Good n l := hK ▸ good_rounds (hi := true) (but := -1) hok hpk hg0 K
  have hdl : InDst n l.length := by rw [hlen]; exact inDst_of_ok hok
  have hpar : ∀ j, j < n.places.toNat → Par n p frm.toNat start l j := fun j hj => by
    rw [hK]
    refine par_rounds hok hpk hg0 ?_ K
    by_cases e : frm.toNat = j
    · exact .inr (.inl ⟨e.symm, by rw [nth_startAt hfN j hj, if_pos e]⟩)
    · exact .inl (by rw [nth_startAt hfN j hj, if_neg e])
  have main : ∀ (m : Nat) (j : Nat), (nth l j).toNat < m → j < n.places.toNat → nth l j ≠ neverN → ∃ k, k ≤ rankOf l (nth l j) ∧ nth (stepF n p frm start k) j ≤ nth l j := by
    intro m
    induction m with
    | zero => intro j h; omega
    | succ m ih =>
      intro j hm hj hnj
      rcases hpar j hj with h | ⟨h1, h2⟩ | ⟨i, v, h1, h2, h3, h4, h5, h6⟩
      · exact absurd h hnj
      · refine ⟨0, Nat.zero_le _, ?_⟩
        show nth (startAt n frm start) j ≤ _
        rw [nth_startAt hfN j hj, if_pos h1.symm, h2]
        exact Int.le_refl _
      · have hfx := frm_of_ok hok h1
        have h7 := closed_of_fix (p := p) (hi := true) (but := -1) hdl hr h1 (by omega) h2 (by omega)
        have h8 : endOf true (spanOf p (nth n.paths i)) = (spanOf p (nth n.paths i)).hi := rfl
        rw [h8, h3] at h7
        have h9 := arrive_mono (nth n.paths i) (t := (spanOf p (nth n.paths i)).hi) h4
        have h10 : nth l j = arriveOf (nth n.paths i) (nth l (nth n.paths i).frm.toNat) (spanOf p (nth n.paths i)).hi := by omega
        have h11 := arrive_gt (x := nth n.paths i) (a := nth l (nth n.paths i).frm.toNat) (by omega) (span_pos hok hpk h1) (by rw [← h10]; exact hnj)
        rw [← h10] at h11
        have h12 := hgl.2.1 (nth n.paths i).frm.toNat (by rw [hlen]; exact hfx)
        obtain ⟨k, hk1, hk2⟩ := ih (nth n.paths i).frm.toNat (by omega) hfx (by omega)
        refine ⟨k + 1, ?_, ?_⟩
        · have := rankOf_lt (l := l) (nth_mem (by rw [hlen]; exact hfx)) h11
          omega
        · have hg := good_stepF hok hpk hfN hs k
          have hh := stepL_hit (p := p) (stepF n p frm start k) (x := ⟨i, h1⟩) (by show nth _ (nth n.paths i).frm.toNat ≠ _; omega) (waysTo n p (-1) n.paths.length) (List.replicate n.places.toNat neverN) (by simpa using inDst_of_ok hok) (mem_ways (Nat.le_refl _) h1 h2)
          have hm2 := arrive_mono (nth n.paths i) (t := (spanOf p (nth n.paths i)).hi) hk2
          rw [h3] at hh
          rw [h10]
          exact Int.le_trans hh hm2
  obtain ⟨k, hk1, hk2⟩ := main ((nth l to.toNat).toNat + 1) to.toNat (by omega) htN hnv
  refine ⟨k, ?_, ?_⟩
  · have := rankOf_len (l := l) (nth_mem (k := to.toNat) (by rw [hlen]; exact htN))
    omega
  · have := hge k to.toNat htN
    omega
end
end Go.Proofs.Ytnjlpkdpmbpblaa
