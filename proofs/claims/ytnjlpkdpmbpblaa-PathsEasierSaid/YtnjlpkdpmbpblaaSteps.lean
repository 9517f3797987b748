/- Walk: paths.walk.steps. It returns rows in new memory: the sure arrivals on routes with 0, 1, 2 .. paths. Conditions: the slices read as lists; net and party are valid. -/
import Derived.Test.YtnjlpkdpmbpblaaGc
import Derived.Test.YtnjlpkdpmbpblaaTail
import Derived.Deep.AppendLies
import Derived.OwnWalkIn
set_option linter.unusedVariables false
set_option linter.unusedSimpArgs false
namespace Go.Proofs.Ytnjlpkdpmbpblaa
open Go.RowKit Go.Shelf Go.Sort
attribute [local go_sem] Oper.semAt_some

def stepU (n : Nt) (p : Pty) (now next : List Int) (i : Nat) : List Int :=
  if nth now (nth n.paths i).frm.toNat = neverN then next
  else next.set (nth n.paths i).dst.toNat (min (nth next (nth n.paths i).dst.toNat) (arriveOf (nth n.paths i) (nth now (nth n.paths i).frm.toNat) (spanOf p (nth n.paths i)).hi))
def stepL {n : Nt} (p : Pty) (now next : List Int) (pre : List (Pix n)) : List Int := pre.foldl (fun m x => stepU n p now m x.1) next
theorem stepL_snoc {n : Nt} (p : Pty) (now next : List Int) (pre : List (Pix n)) (x : Pix n) : stepL p now next (pre ++ [x]) = stepU n p now (stepL p now next pre) x.1 := by simp [stepL]
def stepR (n : Nt) (p : Pty) (now : List Int) : List Int := stepL p now (List.replicate n.places.toNat neverN) (waysTo n p (-1) n.paths.length)
/-- the sure arrivals on routes with k paths -/
def stepF (n : Nt) (p : Pty) (frm start : Int) : Nat → List Int
  | 0 => startAt n frm start
  | k + 1 => stepR n p (stepF n p frm start k)
section
variable {n : Nt} {p : Pty}
theorem good_stepU (hok : netOk n = true) (hpk : partyOk p = true) {now l : List Int} {i : Nat} (h0 : Good n now) (h : Good n l) (hl : i < n.paths.length) : Good n (stepU n p now l i) := by
  obtain ⟨h1, h2, h3⟩ := h
  have hd : (nth n.paths i).dst.toNat < l.length := by rw [h1]; exact inDst_of_ok hok i hl
  have hf : (nth n.paths i).frm.toNat < now.length := by rw [h0.1]; exact frm_of_ok hok hl
  have ha := arriveOf_nonneg (x := nth n.paths i) (h0.2.1 _ hf) (h0.2.2 _ hf) (spanOf_bd hok hpk hl).1
  have hb := arriveOf_le (nth n.paths i) (nth now (nth n.paths i).frm.toNat) (spanOf p (nth n.paths i)).hi
  have hc := h2 _ hd
  have he := h3 _ hd
  unfold stepU
  split
  · exact ⟨h1, h2, h3⟩
  · refine ⟨by simpa using h1, fun j hj => ?_, fun j hj => ?_⟩
    · rw [nth_set hd]
      split
      · omega
      · exact h2 _ (by simpa using hj)
    · rw [nth_set hd]
      split
      · omega
      · exact h3 _ (by simpa using hj)
theorem good_stepL (hok : netOk n = true) (hpk : partyOk p = true) {now : List Int} (h0 : Good n now) (pre : List (Pix n)) : ∀ {l : List Int}, Good n l → Good n (stepL p now l pre) := by
  induction pre with
  | nil => exact fun h => h
  | cons x pre ih => exact fun h => ih (good_stepU hok hpk h0 h x.2)
theorem good_never (n : Nt) : Good n (List.replicate n.places.toNat neverN) := by
  refine ⟨by simp, fun j hj => ?_, fun j hj => ?_⟩ <;> (rw [nth_replicate _ _ _ (by simpa using hj)]; decide)
theorem good_stepF (hok : netOk n = true) (hpk : partyOk p = true) {frm start : Int} (hf : frm.toNat < n.places.toNat) (hs : 0 ≤ start ∧ start ≤ 2880) : ∀ k, Good n (stepF n p frm start k)
  | 0 => good_startAt hf hs
  | k + 1 => good_stepL hok hpk (good_stepF hok hpk hf hs k) _ (good_never n)
end
theorem OnlyB.trans {b : Nat} {u w W : World} (h : OnlyB b u w) (k : OnlyB b w W) : OnlyB b u W :=
  ⟨k.os.trans h.os, k.tape.trans h.tape, k.output.trans h.output, Nat.le_trans h.size k.size, fun i hi hl => (k.block i hi (Nat.lt_of_lt_of_le hl h.size)).trans (h.block i hi hl)⟩
theorem OnlyB.ext_ {b : Nat} {u w W : World} (h : OnlyB b u w) (e : Ext w W) : OnlyB b u W :=
  h.trans ⟨e.os, e.tape, e.output, e.size, fun i _ hl => e.block i hl⟩
theorem OnlyB.own {β : Type} {b B0 : Nat} {w : World} (hB : w.heap.size ≤ B0) : OwnFrom B0 (fun (_ : β) W => OnlyB b w W) := by
  intro s W W' row h hg hr
  exact ⟨hg.os.trans h.os, hg.tape.trans h.tape, hg.output.trans h.output, Nat.le_trans h.size hg.size, fun i hi hl => (hg.block i (Nat.lt_of_lt_of_le hl h.size) (fun e => by have := (hr i e.symm).1; omega)).trans (h.block i hi hl)⟩
/-- slices of rows -/
def sls (N : Nat) (Rs : List Nat) : List Value := Rs.map fun r => .slice (some ⟨r, 0, none⟩) N N
theorem owns_shut {B base : Nat} {w W : World} {e : TypeId} {size : Nat} {v : Value} {n : Nat} {xs : List Value} (h : w.ownsRow base e size v n xs) (hs : Shut B w W) : W.ownsRow base e size v n xs := by
  refine ⟨h.1, ?_⟩
  rcases h.2 with h0 | ⟨g, cap, cur, h1, h2, h3, h4⟩
  · exact .inl h0
  · exact .inr ⟨g, cap, cur, h1, h2, hs.cells _ _ h3 rfl, h4⟩
theorem slice_info : (Try.prog.info? 29).map (fun i => (i.zero, i.size, i.bytes)) = some (some (.slice none 0 0), 1, 24) := by kernel_rfl
theorem owns_same {base : Nat} {w W : World} {e : TypeId} {size : Nat} {v : Value} {n : Nat} {xs : List Value} (h : w.ownsRow base e size v n xs) (hs : ∀ g c f, v.ownBlock = some g → w.heap[g]? = some (.cells c e f) → W.heap[g]? = w.heap[g]?) : W.ownsRow base e size v n xs := by
  refine ⟨h.1, ?_⟩
  rcases h.2 with h0 | ⟨g, cap, cur, h1, h2, h3, h4⟩
  · exact .inl h0
  · exact .inr ⟨g, cap, cur, h1, h2, by rw [hs g _ _ (by rw [h1]; rfl) h3]; exact h3, h4⟩
theorem owns_not_row {base : Nat} {w : World} {v : Value} {n r : Nat} {xs : List Value} {l : List Int} (h : w.ownsRow base 29 1 v n xs) (hr : Row w r l) : v.ownBlock ≠ some r := by
  rcases h.2 with ⟨rfl, _⟩ | ⟨g, cap, cur, rfl, _, h3, _⟩
  · simp [Value.ownBlock]
  · intro e
    have e' : g = r := by simpa [Value.ownBlock] using e
    subst e'
    unfold Row at hr
    rw [h3] at hr
    injection hr with hr
    injection hr with _ ht
    exact absurd ht (by decide)
theorem owns_lt {base : Nat} {w : World} {e : TypeId} {size : Nat} {v : Value} {n g : Nat} {xs : List Value} (h : w.ownsRow base e size v n xs) (hg : v.ownBlock = some g) : base ≤ g ∧ g < w.heap.size ∧ ∃ c, w.heap[g]? = some (.cells c e (0, 0)) := by
  rcases h.2 with ⟨rfl, _⟩ | ⟨g', cap, cur, rfl, hb, h3, _⟩
  · simp [Value.ownBlock] at hg
  · have e' : g' = g := by simpa [Value.ownBlock] using hg
    subst e'
    exact ⟨hb, (Array.getElem?_eq_some_iff.1 h3).1, _, h3⟩
theorem nth_snoc_lt {α : Type} [Inhabited α] {l : List α} {x : α} {j : Nat} (h : j < l.length) : nth (l ++ [x]) j = nth l j := by
  rw [nth_eq (by simp; omega), nth_eq h, List.getElem_append_left h]
theorem nth_snoc {α : Type} [Inhabited α] {l : List α} {x : α} {j : Nat} (h : j = l.length) : nth (l ++ [x]) j = x := by
  subst h
  rw [nth_eq (by simp)]
  simp
theorem row_ne {w : World} {r nb : Nat} {l : List Int} {cs : Array Value} {t : TypeId} {f : Nat × Nat} (h : Row w r l) (hn : w.heap[nb]? = some (.cells cs t f)) (ht : t ≠ 3) : r ≠ nb := by
  rintro rfl
  unfold Row at h
  rw [hn] at h
  injection h with h
  injection h with _ h
  exact ht h
theorem owns_sl {base : Nat} {w : World} {e : TypeId} {g cap n : Nat} {xs : List Value} {f : Nat → Nat → Value} (h : w.ownsRow base e 1 (.slice (some ⟨g, 0, none⟩) n cap) n xs) (hf : ∀ k, k < n → xs[k]? = some (f k 0)) : Sl w (some ⟨g, 0, none⟩) n 1 f := by
  intro h0
  refine ⟨⟨g, 0, rfl⟩, (owns_lt h rfl).2.1, fun k j hk hj => ?_⟩
  obtain rfl : j = 0 := by omega
  have := h.cells (g := g) rfl k _ (hf k hk)
  have hadd : (⟨g, 0, none⟩ : Addr).add k = ⟨g, k, none⟩ := by unfold Addr.add; split <;> simp_all
  rw [hadd] at this
  simpa [blk, off] using this
/-- between two rounds of the inner loop: the row nx alone has turned -/
def StpI {n : Nt} (p : Pty) (w8 : World) (nx : Nat) (now next : List Int) (pre : List (Pix n)) (W : World) : Prop := OnlyB nx w8 W ∧ Row W nx (stepL p now next pre)
theorem StpI.own {n : Nt} {p : Pty} {w8 : World} {nx B0 : Nat} {now next : List Int} (hB : w8.heap.size ≤ B0) : OwnFrom B0 (fun (pre : List (Pix n)) W => StpI p w8 nx now next pre W) := by
  rintro s W W' row ⟨h1, h2⟩ hg hr
  refine ⟨OnlyB.own (β := Unit) hB () W W' row h1 hg hr, (hg.block nx h2.lt (fun e => ?_)).trans h2⟩
  obtain ⟨_, o, ho, hc⟩ := hr nx e.symm
  unfold Row at h2
  rw [h2] at ho
  cases ho
  cases hc
theorem StpI.ext_ {n : Nt} {p : Pty} {w8 W W' : World} {nx : Nat} {now next : List Int} {pre : List (Pix n)} (h : StpI p w8 nx now next pre W) (e : Ext W W') : StpI p w8 nx now next pre W' := ⟨h.1.ext_ e, h.2.ext e⟩
theorem StpI.size {n : Nt} {p : Pty} {w8 W : World} {nx : Nat} {now next : List Int} {pre : List (Pix n)} (h : StpI p w8 nx now next pre W) : w8.heap.size ≤ W.heap.size := h.1.size
/-- between two rounds of the outer loop -/
structure StepSt (n : Nt) (p : Pty) (frm start : Int) (N n0 nb : Nat) (W4 : World) (k : Nat) (Rs : List Nat) (v : Value) (ds : List Deferred) (W : World) : Prop where
  len : Rs.length = k + 1
  rows : ∀ j, j < k + 1 → Row W (nth Rs j) (stepF n p frm start j)
  own : W.ownsRow (nb + 1) 29 1 v (k + 1) (sls N Rs)
  now : W.heap[nb]? = some (.cells #[.slice (some ⟨nth Rs k, 0, none⟩) N N] 29 (0, 0))
  kb : KB n0 [n0] W4 W
  marks : Marks W ds
  from_ : MarksFrom n0 ds
set_option maxRecDepth 100000 in
set_option maxHeartbeats 2000000 in
theorem paths_steps (n : Nt) (p : Pty) (frm start : Int) (A : Option Addr) (B : Nat → Option Addr) (C : Nat → Nat) (c : Nat) (w : World) (hn : Pths w A B C n.paths) (hok : netOk n = true) (hpk : partyOk p = true)
    (hf : 0 ≤ frm ∧ frm ≤ n.places - 1) (hs : 0 ≤ start ∧ start ≤ 2880) :
    Calls Try.prog 39 #[vWalk n p A c, .int .i64 frm, .int .i64 start] w fun e w' => ∃ g cap Rs, e = .returned (.slice (some ⟨g, 0, none⟩) n.places.toNat cap) ∧ Rs.length = n.places.toNat ∧
      Sl w' (some ⟨g, 0, none⟩) n.places.toNat 1 (fun k _ => .slice (some ⟨nth Rs k, 0, none⟩) n.places.toNat n.places.toNat) ∧ (∀ k, k < n.places.toNat → Row w' (nth Rs k) (stepF n p frm start k)) ∧ Ext w w' := by
  refine (callsIn_wide (n := 6)).1 ?_
  dsimp only [vWalk]
  obtain ⟨⟨np1, np2⟩, nlen, hall⟩ := netOk_iff.1 hok
  obtain ⟨f1, f2⟩ := hf
  obtain ⟨s1, s2⟩ := hs
  have HALL := Lib.hid hall
  have HN := Lib.hid hn
  have HOK := Lib.hid hok
  have HPK := Lib.hid hpk
  clear hall hn hok hpk
  obtain ⟨W1, hW1⟩ : ∃ W1, ((w.alloc (.cells #[.int .i64 n.places, .slice A n.paths.length c, .int .i64 p.grade, .int .i64 p.load, .int .i64 p.pace.lo, .int .i64 p.pace.hi] 74)).alloc (.cells #[.int .i64 1073741824] 3)) = W1 := ⟨_, rfl⟩
  have hx1 : Ext w W1 := hW1 ▸ ((Ext.refl w).alloc _).alloc _
  have b : ∀ W9 j, Ext W1 W9 → W9.cell? ⟨w.heap.size, j, none⟩ = (#[.int .i64 n.places, .slice A n.paths.length c, .int .i64 p.grade, .int .i64 p.load, .int .i64 p.pace.lo, .int .i64 p.pace.hi] : Array Value)[j]? := fun W9 j h => by rw [h.cell (by rw [← hW1]; simp only [World.size_alloc]; omega), ← hW1]; simp [go_sem]
  have i1 : Ints W1 (some ⟨w.heap.size + 1, 0, none⟩) [1073741824] := by
    refine Row.ints (b := w.heap.size + 1) ?_
    rw [← hW1]
    unfold Row
    rw [heap_alloc_new' (by simp)]
    rfl
  have I1 := Lib.hid i1
  have hsz1 : w.heap.size + 1 < W1.heap.size := by rw [← hW1]; simp
  clear i1
  refine callsIn_of_wp_marks Try.func39 rfl trivial ?_ rfl
  simp only [Try.ntmps39, List.size_toArray, List.length_cons, List.length_nil, Nat.reduceAdd, Nat.reduceSub, Array.replicate_succ, Array.replicate_zero, List.push_toArray, List.append_toArray, List.nil_append, List.cons_append]
  gi_wp2_with fail
  refine ⟨trivial, ?_⟩
  refine (callsIn_wide.2 (slices_RepeatI _ 1 1073741824 n.places W1 I1.out np1 (by omega))).mono ?_
  rintro e w2 ⟨rb, rfl, hrb, hrow, hx2⟩
  have hx02 : Ext w w2 := hx1.trans hx2
  have hrw : rb < w2.heap.size := hrow.lt
  obtain ⟨N, hN⟩ : ∃ N, N = n.places.toNat := ⟨_, rfl⟩
  rw [← hN] at hrow ⊢
  have hfN : frm.toNat < N := by omega
  have hfI : frm < (N : Int) := by omega
  have HNN := Lib.hid hN
  have hfP : frm.toNat < n.places.toNat := by omega
  clear hN
  obtain ⟨W3, hW3⟩ : ∃ W3, w2.alloc (.cells #[.slice (some ⟨rb, 0, none⟩) N N] 29) = W3 := ⟨_, rfl⟩
  have hx3 : Ext w2 W3 := hW3 ▸ (Ext.refl w2).alloc _
  have q3 : ∀ W9 j, Ext W3 W9 → W9.cell? ⟨w2.heap.size, j, none⟩ = (#[.slice (some ⟨rb, 0, none⟩) N N] : Array Value)[j]? := fun W9 j h => by rw [h.cell (by rw [← hW3]; simp only [World.size_alloc]; omega), ← hW3]; simp [go_sem]
  have r3 : Row W3 rb (List.replicate N 1073741824) := hrow.ext hx3
  have c3 : W3.cell? ⟨rb, frm.toNat, none⟩ = some (.int .i64 (nth (List.replicate N 1073741824) frm.toNat)) := r3.cell (by simpa using hfN)
  have z3 : W3.frozen? ⟨rb, frm.toNat, none⟩ = false := r3.frozen _
  obtain ⟨W3s, hW3s⟩ : ∃ W3s, W3.setCell ⟨rb, frm.toNat, none⟩ (.int .i64 start) = W3s := ⟨_, rfl⟩
  have hr3s : Row W3s rb (startAt n frm start) := by
    have h := r3.set frm.toNat start
    rw [hW3s] at h
    unfold startAt
    rw [← HNN.out]
    exact h
  have hs3s : W3s.heap.size = W3.heap.size := by rw [← hW3s]; simp [World.setCell]
  have hs23 : w2.heap.size < W3.heap.size := by rw [← hW3]; simp
  have hsw2 : w.heap.size + 1 < w2.heap.size := Nat.lt_of_lt_of_le hsz1 hx2.size
  have q3s : ∀ W9, Ext W3s W9 → W9.cell? ⟨w2.heap.size, 0, none⟩ = some (.slice (some ⟨rb, 0, none⟩) N N) := fun W9 h => by
    rw [h.cell (by rw [hs3s]; exact hs23), ← hW3s, World.cell?_setCell_other _ _ _ _ (by intro e; injection e with e; omega), q3 W3 0 (Ext.refl _)]
    rfl
  have b3s : ∀ W9 j, Ext W3s W9 → W9.cell? ⟨w.heap.size, j, none⟩ = (#[.int .i64 n.places, .slice A n.paths.length c, .int .i64 p.grade, .int .i64 p.load, .int .i64 p.pace.lo, .int .i64 p.pace.hi] : Array Value)[j]? := fun W9 j h => by
    rw [h.cell (by simp; omega), ← hW3s, World.cell?_setCell_other _ _ _ _ (by intro e; injection e with e; omega)]
    exact b W3 j (hx2.trans hx3)
  obtain ⟨W4, hW4⟩ : ∃ W4, W3s.alloc (.cells #[.slice (some ⟨rb, 0, none⟩) N N] 29) = W4 := ⟨_, rfl⟩
  have hx4 : Ext W3s W4 := hW4 ▸ (Ext.refl W3s).alloc _
  have hx04 : Ext w W4 := by
    have h := ((hx02.trans hx3).setCell (p := ⟨rb, frm.toNat, none⟩) (by simp; omega) (.int .i64 start))
    rw [hW3s] at h
    exact h.trans hx4
  gi_wp2_with fail
  refine wpIn_loop (fun a W => ∃ (k : Nat) (u9 u28 u29 u30 u31 u32 u33 u34 u35 u66 u67 u68 u69 u70 u71 v : Value) (Rs : List Nat) (ds : List Deferred), StepSt n p frm start N w.heap.size w2.heap.size W4 k Rs v ds W ∧ (k : Int) ≤ n.places - 1 ∧ a = ⟨#[.agg #[.int .i64 n.places, .slice A n.paths.length c, .int .i64 p.grade, .int .i64 p.load, .int .i64 p.pace.lo, .int .i64 p.pace.hi], .int .i64 frm, .int .i64 start, .pointer (some ⟨w.heap.size, 0, none⟩), undef, undef, .slice none 0 0, .pointer (some ⟨w2.heap.size, 0, none⟩), v, u9, undef, undef, .slice (some ⟨w.heap.size + 1, 0, none⟩) 1 1, .pointer (some ⟨w.heap.size, 0, none⟩), .pointer (some ⟨w.heap.size, 0, none⟩), .int .i64 n.places, .slice (some ⟨rb, 0, none⟩) N N, .slice (some ⟨rb, 0, none⟩) N N, .int .i64 frm, .int .i64 start, .pointer (some ⟨rb, frm.toNat, none⟩), .slice (some ⟨rb, 0, none⟩) N N, .slice (some ⟨W3.heap.size, 0, none⟩) 1 1, .pointer (some ⟨w.heap.size, 0, none⟩), .pointer (some ⟨w.heap.size, 0, none⟩), .int .i64 n.places, .int .i64 (n.places - 1), .int .i64 (k : Int), u28, u29, u30, u31, u32, u33, u34, u35, undef, undef, undef, undef, undef, undef, undef, undef, undef, undef, undef, undef, undef, undef, undef, undef, undef, undef, undef, undef, undef, undef, undef, undef, undef, undef, undef, undef, undef, undef, u66, u67, u68, u69, u70, u71, undef], ds⟩) (fun a _ => (n.places - 1).toNat - (intOf (a.tmps.getD 27 undef)).toNat) ?_ ?_
  · have hown4 : W4.ownsRow (w2.heap.size + 1) 29 1 (.slice (some ⟨W3.heap.size, 0, none⟩) 1 1) 1 (sls N [rb]) :=
      ⟨rfl, .inr ⟨W3.heap.size, 1, #[.slice (some ⟨rb, 0, none⟩) N N], rfl, hs23, by rw [← hW4]; exact heap_alloc_new' hs3s.symm, Nat.le_refl _, by decide, rfl, rfl⟩⟩
    have hrows : ∀ j, j < 0 + 1 → Row W4 (nth [rb] j) (stepF n p frm start j) := fun j hj => by
      obtain rfl : j = 0 := by omega
      have e : nth [rb] 0 = rb := by simp [nth]
      rw [e]
      exact hr3s.ext hx4
    have hnow : W4.heap[w2.heap.size]? = some (.cells #[.slice (some ⟨nth [rb] 0, 0, none⟩) N N] 29 (0, 0)) := by
      have e : nth [rb] 0 = rb := by simp [nth]
      rw [e, hx4.block _ (by rw [hs3s]; exact hs23), ← hW3s, heap_set_other (by simp; omega), ← hW3]
      exact heap_alloc_new _ _
    exact ⟨0, _, _, _, _, _, _, _, _, _, _, _, _, _, _, _, _, [rb], [], ⟨rfl, hrows, hown4, hnow, KB.refl _ _ _, trivial, by simp [MarksFrom]⟩, by omega, rfl⟩
  · rintro a wo ⟨k, u9, u28, u29, u30, u31, u32, u33, u34, u35, u66, u67, u68, u69, u70, u71, v, Rs, ds, hst, hkN, rfl⟩
    have hwlt : w2.heap.size < wo.heap.size := (Array.getElem?_eq_some_iff.1 hst.now).1
    have bo : ∀ W9 j, Ext wo W9 → W9.cell? ⟨w.heap.size, j, none⟩ = (#[.int .i64 n.places, .slice A n.paths.length c, .int .i64 p.grade, .int .i64 p.load, .int .i64 p.pace.lo, .int .i64 p.pace.hi] : Array Value)[j]? := fun W9 j h => by
      rw [h.cell (by simp; omega), hst.kb.cell (.inr (by simp))]
      exact b3s W4 j hx4
    by_cases hk : (k : Int) < n.places - 1
    · have no : ∀ W9, Ext wo W9 → W9.cell? ⟨w2.heap.size, 0, none⟩ = some (.slice (some ⟨nth Rs k, 0, none⟩) N N) := fun W9 h => by
        rw [h.cell hwlt]
        simp [World.cell?, hst.now]
      have hxo : Ext w wo := Below.trans hx04 hst.kb.below
      obtain ⟨W5, hW5⟩ : ∃ W5, wo.alloc (.cells #[.int .i64 1073741824] 3) = W5 := ⟨_, rfl⟩
      have hx5 : Ext wo W5 := hW5 ▸ (Ext.refl wo).alloc _
      have i5 : Ints W5 (some ⟨wo.heap.size, 0, none⟩) [1073741824] := by
        refine Row.ints (b := wo.heap.size) ?_
        rw [← hW5]
        unfold Row
        rw [heap_alloc_new' (by simp)]
        rfl
      have I5 := Lib.hid i5
      have hs5 : wo.heap.size < W5.heap.size := by rw [← hW5]; simp
      clear i5
      have HST := Lib.hid hst
      clear hst
      gi_wp2_with fail
      refine ⟨trivial, ?_⟩
      refine (callsIn_wide.2 (slices_RepeatI _ 1 1073741824 n.places W5 I5.out np1 (by omega))).mono ?_
      rintro e w6 ⟨nx, rfl, hnx, hrow6, hx6⟩
      have hNI := HNN.out
      rw [← hNI] at hrow6 ⊢
      clear hNI
      have hx06 : Ext wo w6 := hx5.trans hx6
      have hnxw : nx < w6.heap.size := hrow6.lt
      obtain ⟨W7, hW7⟩ : ∃ W7, w6.alloc (.cells #[.slice (some ⟨nx, 0, none⟩) N N] 29) = W7 := ⟨_, rfl⟩
      have hx7 : Ext w6 W7 := hW7 ▸ (Ext.refl w6).alloc _
      have q7 : ∀ W9 j, Ext W7 W9 → W9.cell? ⟨w6.heap.size, j, none⟩ = (#[.slice (some ⟨nx, 0, none⟩) N N] : Array Value)[j]? := fun W9 j h => by rw [h.cell (by rw [← hW7]; simp only [World.size_alloc]; omega), ← hW7]; simp [go_sem]
      have hs7 : w6.heap.size < W7.heap.size := by rw [← hW7]; simp
      have hx07 : Ext wo W7 := hx06.trans hx7
      have hw := fun W => paths_ways n p A c (-1) W
      have HW := Lib.hid hw
      clear hw
      gi_wp2_with fail
      refine ⟨trivial, ?_⟩
      refine (callsIn_wide.2 (HW.out _)).mono ?_
      rintro e w8 ⟨rfl, hw8⟩
      have hx8 : Ext W7 w8 := hw8 ▸ ((Ext.refl W7).alloc _).alloc _
      have hs8 : W7.heap.size + 1 < w8.heap.size := by rw [← hw8]; simp
      have y : ∀ W9 j, Ext w8 W9 → W9.cell? ⟨W7.heap.size, j, none⟩ = (#[.int .i64 n.places, .slice A n.paths.length c, .int .i64 p.grade, .int .i64 p.load, .int .i64 p.pace.lo, .int .i64 p.pace.hi] : Array Value)[j]? := fun W9 j h => by rw [h.cell (by rw [← hw8]; simp only [World.size_alloc]; omega), ← hw8]; simp [go_sem]
      have x : ∀ W9 j, Ext w8 W9 → W9.cell? ⟨W7.heap.size + 1, j, none⟩ = (#[.int .i64 (-1)] : Array Value)[j]? := fun W9 j h => by rw [h.cell (by rw [← hw8]; simp only [World.size_alloc]; omega), ← hw8]; simp [go_sem]
      have hx08 : Ext wo w8 := hx07.trans hx8
      have hxw8 : Ext w w8 := hxo.trans hx08
      have hrow8 : Row w8 nx (List.replicate N neverN) := hrow6.ext (hx7.trans hx8)
      have hinb8 : Inb w.heap.size [W7.heap.size, W7.heap.size + 1] w8 := ⟨hxw8.size, by intro k hk; simp only [List.mem_cons, List.not_mem_nil, or_false] at hk; omega⟩
      have hput8 : ∀ (W : World) (l : Nat) (o o' : Obj), w8.heap.size ≤ l → W.heap[l]? = some o → o.isCells = false → o.isWalk = false → KB w.heap.size [W7.heap.size, W7.heap.size + 1] W (W.putObj l o') := fun W l o o' hl _ _ _ => (KB.refl _ _ _).putObj (Nat.le_trans hxw8.size hl) (by simp only [List.mem_cons, List.not_mem_nil, or_false]; omega) o'
      have hAx8 : ∀ (T : Nat → Act) (x : Pix n) (a' : Act), OwnFrom w8.heap.size (fun (_ : Unit) W => ∃ Bx, W.heap[Bx]? = some (.cells (vPth B C n.paths x.1).cells 34 (0, 0)) ∧ a' = T Bx) :=
        fun T x a' _ W W' row ⟨Bx, h1, h2⟩ hg hr => ⟨Bx, (hg.block Bx (Array.getElem?_eq_some_iff.1 h1).1 (fun e => by obtain ⟨_, o, ho, hc⟩ := hr Bx e.symm; rw [h1] at ho; cases ho; cases hc)).trans h1, h2⟩
      gi_wp2_with fail
      refine wpIn_rangeFunc_ownH rfl (by omega) (gf := 65) (lb := #[.pointer (some ⟨W7.heap.size, 0, none⟩), .pointer (some ⟨W7.heap.size + 1, 0, none⟩)]) rfl trivial (enters_of Try.func65 (by kernel_rfl) rfl)
        (ways_stops n p A B C c (-1) W7.heap.size (W7.heap.size + 1) 4 w w8 HN.out (by omega) hxw8 hinb8 (fun j => y w8 j (Ext.refl _)) (by rw [x w8 0 (Ext.refl _)]; rfl))
        KB.trans hput8 (Below.refl _ _) (fun _ => rfl)
        (StpI p w8 nx (stepF n p frm start k) (List.replicate N neverN)) (fun _ _ _ => False)
        (StpI.own (Nat.le_refl _)) (fun _ _ _ _ _ h _ _ => h) ⟨OnlyB.refl _ _, hrow8⟩
        (fun x a' W => ∃ Bx, W.heap[Bx]? = some (.cells (vPth B C n.paths x.1).cells 34 (0, 0)) ∧ a' = ⟨#[.agg #[.int .i64 n.places, .slice A n.paths.length c, .int .i64 p.grade, .int .i64 p.load, .int .i64 p.pace.lo, .int .i64 p.pace.hi], .int .i64 frm, .int .i64 start, .pointer (some ⟨w.heap.size, 0, none⟩), undef, undef, .slice none 0 0, .pointer (some ⟨w2.heap.size, 0, none⟩), v, .pointer (some ⟨w6.heap.size, 0, none⟩), .int .i64 (x.1 : Int), .pointer (some ⟨Bx, 0, none⟩), .slice (some ⟨w.heap.size + 1, 0, none⟩) 1 1, .pointer (some ⟨w.heap.size, 0, none⟩), .pointer (some ⟨w.heap.size, 0, none⟩), .int .i64 n.places, .slice (some ⟨rb, 0, none⟩) N N, .slice (some ⟨rb, 0, none⟩) N N, .int .i64 frm, .int .i64 start, .pointer (some ⟨rb, frm.toNat, none⟩), .slice (some ⟨rb, 0, none⟩) N N, .slice (some ⟨W3.heap.size, 0, none⟩) 1 1, .pointer (some ⟨w.heap.size, 0, none⟩), .pointer (some ⟨w.heap.size, 0, none⟩), .int .i64 n.places, .int .i64 (n.places - 1), .int .i64 (k : Int), .bool true, .slice (some ⟨wo.heap.size, 0, none⟩) 1 1, .pointer (some ⟨w.heap.size, 0, none⟩), .pointer (some ⟨w.heap.size, 0, none⟩), .int .i64 n.places, .slice (some ⟨nx, 0, none⟩) N N, .agg #[.int .i64 n.places, .slice A n.paths.length c, .int .i64 p.grade, .int .i64 p.load, .int .i64 p.pace.lo, .int .i64 p.pace.hi], .func (.func 65) #[] #[.pointer (some ⟨W7.heap.size, 0, none⟩), .pointer (some ⟨W7.heap.size + 1, 0, none⟩)], .int .i64 (x.1 : Int), vPth B C n.paths x.1, undef, undef, undef, undef, undef, undef, undef, undef, undef, undef, undef, undef, undef, undef, undef, undef, undef, undef, undef, undef, undef, undef, undef, undef, undef, undef, undef, undef, u66, u67, u68, u69, u70, u71, undef], []⟩)
        (fun x a' => hAx8 _ x a')
        ?assign ?body ?done ?stop
      case assign =>
        intro l pre x W K hI hK
        have hWs : w8.heap.size ≤ W.heap.size := hI.size
        have hiW : Inb w.heap.size [W7.heap.size, W7.heap.size + 1] W := ⟨Nat.le_trans hinb8.low hWs, fun k hk => Nat.lt_of_lt_of_le (hinb8.own k hk) hWs⟩
        gi_wp2
        exact hK _ _ (keepsFrom_ext (KeepsFrom.refl _ _) ((Ext.refl W).alloc _)) ((KB.refl _ _ _).alloc hiW _) (hI.ext_ ((Ext.refl W).alloc _)) ⟨W.heap.size, heap_alloc_new _ _, rfl⟩
      case body =>
        intro l pre x a' W hl hlr hI hA hpl
        obtain ⟨Bx, hbx, rfl⟩ := hA
        obtain ⟨hob, hrw1⟩ := hI
        have hg0 := good_stepF HOK.out HPK.out hfP ⟨s1, s2⟩ k
        have hgood := good_stepL HOK.out HPK.out hg0 pre (good_never n)
        rw [← HNN.out] at hgood
        generalize hLe : stepL p (stepF n p frm start k) (List.replicate N neverN) pre = L at *
        have HLE := Lib.hid hLe
        have HG0 := Lib.hid hg0
        have HG := Lib.hid hgood
        clear hLe hgood hg0
        obtain ⟨i, hil⟩ := x
        dsimp only [vPth, Value.cells] at hbx
        obtain ⟨⟨F0, F1⟩, ⟨D0, D1⟩, _, _, _, _, olen, _⟩ := pathOk_iff.1 (HALL.out _ (nth_mem hil))
        have hNI := HNN.out
        have F2 : (nth n.paths i).frm.toNat < N := by omega
        have F3 : (nth n.paths i).frm < (N : Int) := by omega
        have D2 : (nth n.paths i).dst.toNat < N := by omega
        have D3 : (nth n.paths i).dst < (N : Int) := by omega
        have hLl : L.length = N := by rw [HG.out.1, hNI]
        have hMl : (stepF n p frm start k).length = N := by rw [HG0.out.1, hNI]
        have hrk : Row wo (nth Rs k) (stepF n p frm start k) := HST.out.rows k (by omega)
        have hrkl := hrk.lt
        have hrk8 : Row W (nth Rs k) (stepF n p frm start k) := (hob.block _ (by omega) (Nat.lt_of_lt_of_le hrkl hx08.size)).trans (hrk.ext hx08)
        have hblk : ∀ W9 (r j : Nat), r ≠ nx → r < w8.heap.size → Ext W W9 → W9.cell? ⟨r, j, none⟩ = w8.cell? ⟨r, j, none⟩ := fun W9 r j h1 h2 h => by
          rw [h.cell (Nat.lt_of_lt_of_le h2 hob.size)]
          exact World.cell?_of_block (w := w8) (hob.block r h1 h2)
        have h68 : w6.heap.size < w8.heap.size := Nat.lt_of_lt_of_le hs7 hx8.size
        have bW : ∀ W9 j, Ext W W9 → W9.cell? ⟨w.heap.size, j, none⟩ = (#[.int .i64 n.places, .slice A n.paths.length c, .int .i64 p.grade, .int .i64 p.load, .int .i64 p.pace.lo, .int .i64 p.pace.hi] : Array Value)[j]? := fun W9 j h => by
          rw [hblk W9 _ _ (by omega) (by omega) h]
          exact bo w8 j hx08
        have nW : ∀ W9, Ext W W9 → W9.cell? ⟨w2.heap.size, 0, none⟩ = some (.slice (some ⟨nth Rs k, 0, none⟩) N N) := fun W9 h => by
          rw [hblk W9 _ _ (by omega) (by omega) h]
          exact no w8 hx08
        have qW : ∀ W9, Ext W W9 → W9.cell? ⟨w6.heap.size, 0, none⟩ = some (.slice (some ⟨nx, 0, none⟩) N N) := fun W9 h => by
          rw [hblk W9 _ _ (by omega) h68 h, q7 w8 0 hx8]
          rfl
        have rF : ∀ W9, Ext W W9 → W9.cell? ⟨nth Rs k, (nth n.paths i).frm.toNat, none⟩ = some (.int .i64 (nth (stepF n p frm start k) (nth n.paths i).frm.toNat)) := fun W9 h => (hrk8.ext h).cell (by omega)
        have rD : ∀ W9, Ext W W9 → W9.cell? ⟨nx, (nth n.paths i).dst.toNat, none⟩ = some (.int .i64 (nth L (nth n.paths i).dst.toNat)) := fun W9 h => (hrw1.ext h).cell (by omega)
        have xW : ∀ W9 j, Ext W W9 → W9.cell? ⟨Bx, j, none⟩ = (#[.int .i64 (nth n.paths i).frm, .int .i64 (nth n.paths i).dst, .int .i64 (nth n.paths i).grade, .int .i64 (nth n.paths i).time.lo, .int .i64 (nth n.paths i).time.hi, .int .i64 (nth n.paths i).snow.lo, .int .i64 (nth n.paths i).snow.hi, .slice (B i) (nth n.paths i).opens.length (C i)] : Array Value)[j]? := fun W9 j h => by
          rw [h.cell (Array.getElem?_eq_some_iff.1 hbx).1]
          simp [World.cell?, hbx]
        have hbd1 := HG0.out.2.1 (nth n.paths i).frm.toNat (by omega)
        have hbd2 := HG0.out.2.2 (nth n.paths i).frm.toNat (by omega)
        clear hNI hrk hrk8 hblk
        by_cases hnv : nth (stepF n p frm start k) (nth n.paths i).frm.toNat = 1073741824
        · rw [hnv] at rF
          gi_wp2_with fail
          have key : stepL p (stepF n p frm start k) (List.replicate N neverN) (pre ++ [⟨i, hil⟩]) = L := by
            rw [stepL_snoc, HLE.out, stepU]
            exact if_pos hnv
          refine ⟨KeepsFrom.refl _ _, KB.refl _ _ _, hob, ?_⟩
          rw [key]
          exact hrw1
        · have hfld := field_span_hi
          gi_wp2_with fail
          refine wpIn_region_ext_tail 22 (fun _ => trivial) rfl (fun h => CallsIn.inRound l (callsIn_wide.2 h)) (by kernel_rfl) (by kernel_rfl) ?_
          simp only [List.take_succ_cons, List.take_zero, List.drop_succ_cons, List.drop_zero]
          have hxW : Ext w W := OnlyB.ext hxw8 hob (by have := hxo.size; omega)
          have hpW : ∀ d os, Pths (grow (redrawn W d) os) A B C n.paths := fun d os => HN.out.ext (hxW.trans (ext_regrown W d os))
          have hbd3 := spanOf_bd HOK.out HPK.out hil
          unfold neverN at hbd2
          have hz := hrw1.frozen
          repeat (go_big_quiet_step (first | exact Calls.regrown_of (paths_span n p A B C c i _ (hpW _ _) hil HOK.out HPK.out) | exact Calls.regrown_of (paths_arrive n p A B C c i _ _ _ (hpW _ _) hil (by omega) (by omega) hbd2 hbd3.1 (by omega))))
          refine wpQuiet_nil ?_
          rintro W2 hg
          have hxW2 : Ext W W2 := by
            obtain ⟨g, rfl⟩ := hg
            exact ext_regrown W g.d g.os
          clear hg hpW
          generalize hT : (if arriveOf (nth n.paths i) (nth (stepF n p frm start k) (nth n.paths i).frm.toNat) (spanOf p (nth n.paths i)).hi < nth L (nth n.paths i).dst.toNat then arriveOf (nth n.paths i) (nth (stepF n p frm start k) (nth n.paths i).frm.toNat) (spanOf p (nth n.paths i)).hi else nth L (nth n.paths i).dst.toNat) = T
          have HT := Lib.hid hT
          clear hT
          have hr2 := hrw1.ext hxW2
          have hz2 := hr2.frozen
          have hWi : Inb w.heap.size [W7.heap.size, W7.heap.size + 1] W := ⟨Nat.le_trans hinb8.low hob.size, fun k hk => Nat.lt_of_lt_of_le (hinb8.own k hk) hob.size⟩
          have hk3 := (KB.of_ext hWi hxW2).setCell (p := ⟨nx, (nth n.paths i).dst.toNat, none⟩) (by have := hxo.size; simp; omega) (by simp only [List.mem_cons, List.not_mem_nil, or_false]; omega) (.int .i64 T)
          have hf3 := keepsFrom_set (p := ⟨nx, (nth n.paths i).dst.toNat, none⟩) (u := .int .i64 T) (keepsFrom_ext (KeepsFrom.refl w8.heap.size W) hxW2) hr2
          have ho3 := (hob.ext_ hxW2).setCell (i := (nth n.paths i).dst.toNat) (.int .i64 T)
          have hr3 := hr2.set (nth n.paths i).dst.toNat T
          have HK3 := Lib.hid hk3
          have HF3 := Lib.hid hf3
          have HO3 := Lib.hid ho3
          have HR3 := Lib.hid hr3
          clear hk3 hf3 ho3 hr3
          gi_wp2_with fail
          have key : stepL p (stepF n p frm start k) (List.replicate N neverN) (pre ++ [⟨i, hil⟩]) = L.set (nth n.paths i).dst.toNat T := by
            rw [stepL_snoc, HLE.out, stepU]
            refine (if_neg hnv).trans ?_
            rw [← HT.out]
            congr 1
            show min _ _ = _
            simp only [Int.min_def]
            (repeat' split) <;> omega
          refine ⟨HF3.out, HK3.out, HO3.out, ?_⟩
          rw [key]
          exact HR3.out
      case done =>
        intro D xs W hD hxs hI hmk
        subst hxs
        obtain ⟨hob, hrw1⟩ := hI
        have hst := HST.out
        obtain ⟨i0, hi, hz0, hz1, hz2⟩ := info_parts slice_info
        obtain ⟨Wa, hWa⟩ : ∃ Wa, W.alloc (.cells #[.slice (some ⟨nx, 0, none⟩) N N] 29) = Wa := ⟨_, rfl⟩
        have hxa : Ext W Wa := hWa ▸ (Ext.refl W).alloc _
        have hna : Wa.heap[W.heap.size]? = some (.cells #[.slice (some ⟨nx, 0, none⟩) N N] 29 (0, 0)) := by rw [← hWa]; exact heap_alloc_new _ _
        have hvlt : ∀ g, v.ownBlock = some g → w2.heap.size + 1 ≤ g ∧ g < wo.heap.size ∧ g ≠ nx := fun g hg => by
          obtain ⟨h1, h2, _⟩ := owns_lt hst.own hg
          exact ⟨h1, h2, by omega⟩
        have hsame : ∀ r, r < w8.heap.size → r ≠ nx → Wa.heap[r]? = w8.heap[r]? := fun r h1 h2 => (hxa.block r (Nat.lt_of_lt_of_le h1 hob.size)).trans (hob.block r h2 h1)
        have hown : Wa.ownsRow (w2.heap.size + 1) 29 1 v (k + 1) (sls N Rs) := owns_same hst.own (fun g c f hg _ => by
          obtain ⟨_, h2, h3⟩ := hvlt g hg
          exact (hsame g (Nat.lt_of_lt_of_le h2 hx08.size) h3).trans (hx08.block g h2))
        have qW : ∀ W9, Ext W W9 → W9.cell? ⟨w6.heap.size, 0, none⟩ = some (.slice (some ⟨nx, 0, none⟩) N N) := fun W9 h => by
          have h68 : w6.heap.size < w8.heap.size := Nat.lt_of_lt_of_le hs7 hx8.size
          rw [h.cell (Nat.lt_of_lt_of_le h68 hob.size), World.cell?_of_block (w := w8) (hob.block w6.heap.size (by omega) h68), q7 w8 0 hx8]
          rfl
        have hk10 : ∀ w10 r, Wa.grownBy w10 v.ownBlock → r < w8.heap.size → r ≠ nx → v.ownBlock ≠ some r → w10.heap[r]? = w8.heap[r]? := fun w10 r hg h1 h2 h3 =>
          (hg.block r (Nat.lt_of_lt_of_le h1 (Nat.le_trans hob.size hxa.size)) (fun e => h3 e.symm)).trans (hsame r h1 h2)
        have hq10 : ∀ w10, Wa.grownBy w10 v.ownBlock → w10.cell? ⟨w6.heap.size, 0, none⟩ = some (.slice (some ⟨nx, 0, none⟩) N N) := fun w10 hg => by
          have h68 : w6.heap.size < w8.heap.size := Nat.lt_of_lt_of_le hs7 hx8.size
          rw [World.cell?_of_block (w := w8) (hk10 w10 w6.heap.size hg h68 (by omega) (fun e => by have := hvlt _ e; have := hx06.size; omega)), q7 w8 0 hx8]
          rfl
        have hn10 : ∀ w10, Wa.grownBy w10 v.ownBlock → w10.heap[w2.heap.size]? = some (.cells #[.slice (some ⟨nth Rs k, 0, none⟩) N N] 29 (0, 0)) := fun w10 hg => by
          rw [hk10 w10 _ hg (Nat.lt_of_lt_of_le hwlt hx08.size) (by omega) (fun e => by have := hvlt _ e; omega), hx08.block _ hwlt]
          exact hst.now
        have HOWN := Lib.hid hown
        have HI := Lib.hid hi
        have HQ10 := Lib.hid hq10
        have HN10 := Lib.hid hn10
        have HK10 := Lib.hid hk10
        clear hown hst hi hq10 hn10 hk10
        have hcap : k + 1 + 1 ≤ maxLen := Nat.le_trans (show k + 1 + 1 ≤ 14 by omega) (by decide)
        have hbase : w2.heap.size + 1 ≤ Wa.heap.size := by have h1 := hxa.size; have h2 := hob.size; have h3 := hx08.size; omega
        have HC := Lib.hid hcap
        clear hcap
        gi_wp2_with (gi_at_builtin; refine wpListIn_append_own _ rfl _ _ 91 rfl (w2.heap.size + 1) 29 i0 (.slice none 0 0) 1 24 Try.underlying91 HI.out hz0 hz1 hz2 rfl (by decide) v (k + 1) (sls N Rs) rfl HOWN.out ⟨W.heap.size, 0, none⟩ 1 1 [.slice (some ⟨nx, 0, none⟩) N N] rfl rfl (World.news_of_block hna) (by simp [Value.oneCell']) HC.out (by omega) hbase ?_; intro v' w10 hown' hgr hnil; clear hnil; have q10 := HQ10.out _ hgr; have n10 := HN10.out _ hgr; have nc10 : w10.cell? ⟨w2.heap.size, 0, none⟩ = some (.slice (some ⟨nth Rs k, 0, none⟩) N N) := (by simp [World.cell?, n10]); have nz10 : w10.frozen? ⟨w2.heap.size, 0, none⟩ = false := (by simp [World.frozen?, n10]))
        have hst := HST.out
        have hn : N = n.places.toNat := HNN.out
        have hwo8 := hx08.size
        have hF : ∀ r, r < wo.heap.size → r ≠ w2.heap.size → v.ownBlock ≠ some r → (w10.setCell ⟨w2.heap.size, 0, none⟩ (.slice (some ⟨nx, 0, none⟩) N N)).heap[r]? = wo.heap[r]? := fun r h1 h2 h3 =>
          (heap_set_other (p := ⟨w2.heap.size, 0, none⟩) h2).trans ((HK10.out w10 r hgr (by omega) (by omega) h3).trans (hx08.block r h1))
        have hs11 : w10.heap.size ≤ (w10.setCell ⟨w2.heap.size, 0, none⟩ (.slice (some ⟨nx, 0, none⟩) N N)).heap.size := by simp [World.setCell]
        have hs10 : wo.heap.size ≤ w10.heap.size := Nat.le_trans hwo8 (Nat.le_trans hob.size (Nat.le_trans hxa.size hgr.size))
        have hnx11 : Row (w10.setCell ⟨w2.heap.size, 0, none⟩ (.slice (some ⟨nx, 0, none⟩) N N)) nx (stepF n p frm start (k + 1)) := by
          have h1 : Row w10 nx _ := (hgr.block nx (Nat.lt_of_lt_of_le hrw1.lt hxa.size) (fun e => by have := hvlt nx e.symm; omega)).trans (hrw1.ext hxa)
          rw [hn] at h1
          exact (heap_set_other (p := ⟨w2.heap.size, 0, none⟩) (by simp; omega)).trans h1
        have hst' : StepSt n p frm start N w.heap.size w2.heap.size W4 (k + 1) (Rs ++ [nx]) v' ({ target := .collected D, args := #[] } :: ds) (w10.setCell ⟨w2.heap.size, 0, none⟩ (.slice (some ⟨nx, 0, none⟩) N N)) := by
          refine ⟨by simp [hst.len], fun j hj => ?_, ?_, ?_, ?_, ⟨⟨D, rfl, ?_, ?_⟩, ?_⟩, ?_⟩
          · by_cases hj1 : j < k + 1
            · rw [nth_snoc_lt (by rw [hst.len]; exact hj1)]
              have hr := hst.rows j hj1
              exact (hF _ hr.lt (row_ne hr hst.now (by decide)) (owns_not_row hst.own hr)).trans hr
            · obtain rfl : j = k + 1 := by omega
              rw [nth_snoc (by rw [hst.len])]
              exact hnx11
          · have e : sls N (Rs ++ [nx]) = sls N Rs ++ [.slice (some ⟨nx, 0, none⟩) N N] := by simp [sls]
            rw [e]
            exact owns_same hown' (fun g c f hg _ => heap_set_other (p := ⟨w2.heap.size, 0, none⟩) (by have := (owns_lt hown' hg).1; simp; omega))
          · rw [nth_snoc (by rw [hst.len])]
            simp [World.setCell, Array.getElem?_modify, n10]
          · exact hst.kb.trans ⟨hgr.os.trans (hxa.os.trans (hob.os.trans hx08.os)), hgr.tape.trans (hxa.tape.trans (hob.tape.trans hx08.tape)), hgr.output.trans (hxa.output.trans (hob.output.trans hx08.output)), Nat.le_trans hs10 hs11,
              fun r hr => by
                have hr' : r < w.heap.size ∨ r = w.heap.size := hr.imp id (fun h => by simpa using h)
                have := hxo.size
                exact hF r (by omega) (by omega) (fun e => by have := hvlt r e; omega)⟩
          · refine (heap_set_other (p := ⟨w2.heap.size, 0, none⟩) (by simp; omega)).trans ((hgr.block D (Nat.lt_of_lt_of_le (Array.getElem?_eq_some_iff.1 hmk).1 hxa.size) (fun e => by have := hvlt D e.symm; omega)).trans ((hxa.block D (Array.getElem?_eq_some_iff.1 hmk).1).trans hmk))
          · intro e he h
            have := marks_below hst.marks e he D h
            omega
          · refine marks_kept hst.marks fun E hE _ => (hF E (Array.getElem?_eq_some_iff.1 hE).1 ?_ ?_).trans hE
            · rintro rfl
              rw [hst.now] at hE
              cases hE
            · intro e
              obtain ⟨_, _, c, hc⟩ := owns_lt hst.own e
              rw [hc] at hE
              cases hE
          · intro d hd E hE
            rcases List.mem_cons.1 hd with rfl | hd
            · cases hE
              exact Nat.le_trans hxw8.size hD
            · exact hst.from_ d hd E hE
        refine ⟨⟨k + 1, _, _, _, _, _, _, _, _, _, _, _, _, _, _, _, _, Rs ++ [nx], _, hst', by omega, rfl⟩, ?_⟩
        show (n.places - 1).toNat - ((k : Int) + 1).toNat < (n.places - 1).toNat - (k : Int).toNat
        omega
      case stop =>
        rintro D c pre W _ _ h _
        exact h.elim
    · have hkN2 : k + 1 = n.places.toNat := by omega
      obtain ⟨g, cap, hv, hbg, hgl⟩ := hst.own.form (by omega)
      subst hv
      have HST := Lib.hid hst
      clear hst
      gi_wp2_with fail
      refine leaves_marks (n0 := w.heap.size) (v := .slice (some ⟨g, 0, none⟩) n.places.toNat cap) ds _ HST.out.marks HST.out.from_ (fun W hsh => ⟨by rw [results_tmp (t := 6) rfl]; rfl, g, ⟨cap, rfl⟩, Rs, by rw [HST.out.len, hkN2], ?_, fun j hj => hsh.cells _ _ (HST.out.rows j (by omega)) rfl, ?_⟩)
      · have h1 := owns_shut HST.out.own hsh
        rw [← hkN2]
        refine owns_sl h1 (fun j hj => ?_)
        have hjl : j < Rs.length := by rw [HST.out.len]; exact hj
        rw [HNN.out.trans hkN2.symm, sls, List.getElem?_map, List.getElem?_eq_getElem hjl, nth_eq hjl]
        rfl
      · exact Ext.trans_shut (w := wo) (Below.trans hx04 HST.out.kb.below) hsh
end Go.Proofs.Ytnjlpkdpmbpblaa
