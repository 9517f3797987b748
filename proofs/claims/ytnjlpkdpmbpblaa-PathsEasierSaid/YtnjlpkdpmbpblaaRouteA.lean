/- Walk: the function inside paths.Route that compares an arrival; words for the tables of paths.Route. Conditions: the row and the two boxes read. -/
import Derived.Test.YtnjlpkdpmbpblaaSteps
import Derived.Test.YtnjlpkdpmbpblaaIdxRow
import Derived.Maps.OwnIn
set_option linter.unusedVariables false
set_option linter.unusedSimpArgs false
namespace Go.Proofs.Ytnjlpkdpmbpblaa
open Go.RowKit Go.Shelf Go.Sort
attribute [local go_sem] Oper.semAt_some
set_option maxHeartbeats 400000 in
theorem paths_Route1 (l : List Int) (r bt ba : Nat) (to arr : Int) (w : World) (hr : Row w r l) (ht : w.cell? ⟨bt, 0, none⟩ = some (.int .i64 to)) (ha : w.cell? ⟨ba, 0, none⟩ = some (.int .i64 arr))
    (h1 : 0 ≤ to) (h2 : to < (l.length : Int)) :
    Calls Try.prog 40 #[.slice (some ⟨r, 0, none⟩) l.length l.length, .pointer (some ⟨bt, 0, none⟩), .pointer (some ⟨ba, 0, none⟩)] w fun e w' => e = .returned (.bool (nth l to.toNat == arr)) ∧ Ext w w' := by
  have h3 := hr.cell (i := to.toNat) (by omega)
  have f0 : ∀ W, Ext w W → W.cell? ⟨r, to.toNat, none⟩ = some (.int .i64 (nth l to.toNat)) := fun W h => Ext.old h3 h
  have f1 : ∀ W, Ext w W → W.cell? ⟨bt, 0, none⟩ = some (.int .i64 to) := fun W h => Ext.old ht h
  have f2 : ∀ W, Ext w W → W.cell? ⟨ba, 0, none⟩ = some (.int .i64 arr) := fun W h => Ext.old ha h
  clear hr ht ha h3
  go_enter Try.func40, Try.ntmps40
  go_wp2
  go_quiet (fail)
  go_wp2
  go_ret
  exact ⟨rfl, (Ext.refl w).drewN _⟩

theorem results_cct {fn : Func} {p q u : Tmp} {ty ty' : TypeId} (h : fn.results = #[.cell p ty, .cell q ty', .tmp u]) (tmps : Array Value) (P : Program) (w : World) {a b : Addr} {x y : Value} (hp : tmps.getD p undef = .pointer (some a)) (hq : tmps.getD q undef = .pointer (some b))
    (hx : (loadVar ty a).run P w = .ok x w) (hy : (loadVar ty' b).run P w = .ok y w) : (results fn tmps).run P w = .ok (.tuple #[x, y, tmps.getD u undef]) w := by
  simp only [results, h]
  have ha : (asAddr (.pointer (some a))).run P w = .ok a w := rfl
  have hb : (asAddr (.pointer (some b))).run P w = .ok b w := rfl
  simp only [Array.getD_eq_getD_getElem?] at hp hq
  simp [Sem.run_bind, Result.andThen, hp, hq, ha, hb, hx, hy]
theorem results_route (tmps : Array Value) (w : World) (bR bA : Nat) (x y : Value) (hp : tmps.getD 10 undef = .pointer (some ⟨bR, 0, none⟩)) (hq : tmps.getD 11 undef = .pointer (some ⟨bA, 0, none⟩))
    (hx : w.cell? ⟨bR, 0, none⟩ = some x) (hy : w.cell? ⟨bA, 0, none⟩ = some y) :
    (results Try.f14 tmps).run Try.prog w = .ok (.tuple #[x, y, tmps.getD 12 undef]) w := by
  refine results_cct rfl tmps _ w hp hq ?_ ?_
  · simp [go_sem, hx]
  · simp [go_sem, hy]

theorem made_rows (n : Nt) (m : Nat) : madeCells #[Value.slice none 0 0] (m * 1) = (List.replicate m (Value.slice none 0 0)).toArray := by
  unfold madeCells
  apply Array.ext
  · simp
  · intro i h1 h2
    simp [Nat.mod_one]
theorem make_rows (n : Nt) (m : Nat) (hm : m ≤ 1000) (W : World) : (Instr.makeSlice 91 (.int .i64 ((m : Int) + 1)) (.int .i64 ((m : Int) + 1))).run Try.prog W = .ok (.slice (some ⟨W.heap.size, 0, none⟩) (m + 1) (m + 1)) (W.alloc (.cells (List.replicate (m + 1) (Value.slice none 0 0)).toArray 29)) := by
  obtain ⟨i0, hi, hz0, hz1, hz2⟩ := info_parts slice_info
  have h := run_make W 91 29 i0 (.slice none 0 0) Try.underlying91 hi hz0 .i64 .i64 ((m : Int) + 1) ((m : Int) + 1) (by omega) (by omega) (by rw [hz2]; omega) (by omega)
  rw [h, hz1]
  have e : ((m : Int) + 1).toNat = m + 1 := by omega
  rw [e]
  show Result.ok _ (W.alloc (.cells (madeCells #[Value.slice none 0 0] ((m + 1) * 1)) _)) = _
  rw [made_rows n]

/-! the tables of paths.Route -/
def backU (n : Nt) (p : Pty) (now next : List Int) (i : Nat) : List Int :=
  next.set (nth n.paths i).frm.toNat (max (nth next (nth n.paths i).frm.toNat) (latestOf (nth n.paths i) (nth now (nth n.paths i).dst.toNat - (spanOf p (nth n.paths i)).hi)))
def backL {n : Nt} (p : Pty) (now next : List Int) (pre : List (Pix n)) : List Int := pre.foldl (fun m x => backU n p now m x.1) next
theorem backL_snoc {n : Nt} (p : Pty) (now next : List Int) (pre : List (Pix n)) (x : Pix n) : backL p now next (pre ++ [x]) = backU n p now (backL p now next pre) x.1 := by simp [backL]
def backR (n : Nt) (p : Pty) (now : List Int) : List Int := backL p now (List.replicate n.places.toNat (-1)) (waysTo n p (-1) n.paths.length)
/-- when the party must be at each place, with k paths to go -/
def byF (n : Nt) (p : Pty) (to arr : Int) : Nat → List Int
  | 0 => (List.replicate n.places.toNat (-1)).set to.toNat arr
  | k + 1 => backR n p (byF n p to arr k)
def Good3 (n : Nt) (l : List Int) : Prop := l.length = n.places.toNat ∧ ∀ j, j < l.length → -1 ≤ nth l j ∧ nth l j ≤ 1073741824
theorem latest_bd3 (l : List Spn) (b : Int) (hb : b ≤ 1073741824) : ∀ e : Int, -1 ≤ e → e ≤ 1073741824 → -1 ≤ l.foldl (latestStep b) e ∧ l.foldl (latestStep b) e ≤ 1073741824 := by
  induction l with
  | nil => exact fun e h1 h2 => ⟨h1, h2⟩
  | cons s l ih =>
    intro e h1 h2
    rw [List.foldl_cons]
    apply ih <;> unfold latestStep <;> split <;> omega
section
variable {n : Nt} {p : Pty}
theorem good3_backU (hok : netOk n = true) (hpk : partyOk p = true) {now l : List Int} {i : Nat} (h0 : Good3 n now) (h : Good3 n l) (hi : i < n.paths.length) : Good3 n (backU n p now l i) := by
  have hf : (nth n.paths i).frm.toNat < l.length := by rw [h.1]; exact frm_of_ok hok hi
  have hd := h0.2 (nth n.paths i).dst.toNat (by rw [h0.1]; exact inDst_of_ok hok i hi)
  have hs := spanOf_bd hok hpk hi
  have hb := latest_bd3 (nth n.paths i).opens (nth now (nth n.paths i).dst.toNat - (spanOf p (nth n.paths i)).hi) (by omega) (-1) (by omega) (by omega)
  have hc := h.2 _ hf
  refine ⟨by simpa [backU] using h.1, fun j hj => ?_⟩
  unfold backU
  rw [nth_set hf]
  split
  · unfold latestOf; omega
  · exact h.2 j (by simpa [backU] using hj)
theorem good3_backL (hok : netOk n = true) (hpk : partyOk p = true) {now : List Int} (h0 : Good3 n now) (pre : List (Pix n)) : ∀ {l : List Int}, Good3 n l → Good3 n (backL p now l pre) := by
  induction pre with
  | nil => exact fun h => h
  | cons x pre ih => exact fun h => ih (good3_backU hok hpk h0 h x.2)
theorem good3_minus (n : Nt) : Good3 n (List.replicate n.places.toNat (-1)) := by
  refine ⟨by simp, fun j hj => ?_⟩
  rw [nth_replicate _ _ _ (by simpa using hj)]
  decide
theorem good3_byF (hok : netOk n = true) (hpk : partyOk p = true) {to arr : Int} (hf : to.toNat < n.places.toNat) (hs : -1 ≤ arr ∧ arr ≤ 1073741824) : ∀ k, Good3 n (byF n p to arr k)
  | 0 => by
    refine ⟨by simp [byF], fun j hj => ?_⟩
    have hj' : j < n.places.toNat := by simpa [byF] using hj
    unfold byF
    rw [nth_set (by simpa using hf)]
    split
    · exact hs
    · rw [nth_replicate _ _ _ hj']; decide
  | k + 1 => good3_backL hok hpk (good3_byF hok hpk hf hs k) _ (good3_minus n)
end
/-- between two rounds of a loop over paths: one row alone has turned -/
def RowI {n : Nt} (f : List (Pix n) → List Int) (w8 : World) (nx : Nat) (pre : List (Pix n)) (W : World) : Prop := OnlyB nx w8 W ∧ Row W nx (f pre)
theorem RowI.own {n : Nt} {f : List (Pix n) → List Int} {w8 : World} {nx B0 : Nat} (hB : w8.heap.size ≤ B0) : OwnFrom B0 (fun (pre : List (Pix n)) W => RowI f w8 nx pre W) := by
  rintro s W W' row ⟨h1, h2⟩ hg hr
  refine ⟨OnlyB.own (β := Unit) hB () W W' row h1 hg hr, (hg.block nx h2.lt (fun e => ?_)).trans h2⟩
  obtain ⟨_, o, ho, hc⟩ := hr nx e.symm
  unfold Row at h2
  rw [h2] at ho
  cases ho
  cases hc
theorem RowI.ext_ {n : Nt} {f : List (Pix n) → List Int} {w8 W W' : World} {nx : Nat} {pre : List (Pix n)} (h : RowI f w8 nx pre W) (e : Ext W W') : RowI f w8 nx pre W' := ⟨h.1.ext_ e, h.2.ext e⟩
theorem RowI.size {n : Nt} {f : List (Pix n) → List Int} {w8 W : World} {nx : Nat} {pre : List (Pix n)} (h : RowI f w8 nx pre W) : w8.heap.size ≤ W.heap.size := h.1.size
theorem tab_set {N m k nx : Nat} {Rs : List Nat} (hl : Rs.length = k + 1) (hk : k < m) : (sls N Rs ++ List.replicate (m - k) (Value.slice none 0 0)).set (k + 1) (.slice (some ⟨nx, 0, none⟩) N N) = sls N (Rs ++ [nx]) ++ List.replicate (m - (k + 1)) (Value.slice none 0 0) := by
  have h1 : (sls N Rs).length = k + 1 := by simp [sls, hl]
  obtain ⟨d, hd⟩ : ∃ d, m - k = d + 1 := ⟨m - k - 1, by omega⟩
  rw [List.set_append_right _ _ (by rw [h1]; exact Nat.le_refl _), h1, Nat.sub_self, hd, List.replicate_succ, show m - (k + 1) = d by omega]
  simp [sls]
/-- between two rounds of the first loop -/
structure BySt (n : Nt) (p : Pty) (to arr : Int) (N bb m : Nat) (W0 : World) (k : Nat) (Rs : List Nat) (ds : List Deferred) (W : World) : Prop where
  len : Rs.length = k + 1
  rows : ∀ j, j < k + 1 → Row W (nth Rs j) (byF n p to arr j)
  tab : W.heap[bb]? = some (.cells (sls N Rs ++ List.replicate (m - k) (Value.slice none 0 0)).toArray 29 (0, 0))
  kb : KB bb [bb + 1] W0 W
  marks : Marks W ds
  from_ : MarksFrom bb ds
/-- the path that the party takes from a place, with the table of the next place -/
def takes {n : Nt} (p : Pty) (row : List Int) (place at_ : Int) (x : Pix n) : Bool :=
  (nth n.paths x.1).frm == place && decide (arriveOf (nth n.paths x.1) at_ (spanOf p (nth n.paths x.1)).hi ≤ nth row (nth n.paths x.1).dst.toNat)
structure Trk where
  place : Int
  at_ : Int
  route : List Int
def trkStep (n : Nt) (p : Pty) (row : List Int) (t : Trk) : Trk :=
  match (waysTo n p (-1) n.paths.length).find? (takes p row t.place t.at_) with
  | some x => ⟨(nth n.paths x.1).dst, arriveOf (nth n.paths x.1) t.at_ (spanOf p (nth n.paths x.1)).hi, t.route ++ [(x.1 : Int)]⟩
  | none => t
/-- j of m paths are chosen -/
def trk (n : Nt) (p : Pty) (to arr frm start : Int) (m : Nat) : Nat → Trk
  | 0 => ⟨frm, start, []⟩
  | j + 1 => trkStep n p (byF n p to arr (m - 1 - j)) (trk n p to arr frm start m j)
theorem trk_bd {n : Nt} {p : Pty} (hok : netOk n = true) (hpk : partyOk p = true) (to arr frm start : Int) (hs : 0 ≤ start ∧ start ≤ 2880) (m : Nat) : ∀ j, (0 ≤ (trk n p to arr frm start m j).at_ ∧ (trk n p to arr frm start m j).at_ ≤ 1073741824) ∧ (trk n p to arr frm start m j).route.length ≤ j
  | 0 => ⟨⟨hs.1, by show start ≤ _; omega⟩, Nat.le_refl _⟩
  | j + 1 => by
    obtain ⟨⟨h1, h2⟩, h3⟩ := trk_bd hok hpk to arr frm start hs m j
    rw [trk, trkStep]
    split
    · rename_i x _
      have hs1 := spanOf_bd hok hpk x.2
      have ha := arriveOf_nonneg (x := nth n.paths x.1) h1 h2 hs1.1
      have hb := arriveOf_le (nth n.paths x.1) (trk n p to arr frm start m j).at_ (spanOf p (nth n.paths x.1)).hi
      unfold neverN at hb
      exact ⟨⟨ha, hb⟩, by simp; omega⟩
    · exact ⟨⟨h1, h2⟩, by omega⟩
/-- what the box of a counter holds -/
def kOf (W : World) (v : Value) : Int := match v with | .pointer (some x) => intOf ((W.cell? x).getD undef) | _ => 0
theorem kOf_cell {W : World} {b : Nat} {z : Int} (h : W.cell? ⟨b, 0, none⟩ = some (.int .i64 z)) : kOf W (.pointer (some ⟨b, 0, none⟩)) = z := by simp [kOf, h, intOf]
theorem blocks_ne {w : World} {a b : Nat} {cs cs' : Array Value} {t t' : TypeId} {f f' : Nat × Nat} (h : w.heap[a]? = some (.cells cs t f)) (h' : w.heap[b]? = some (.cells cs' t' f')) (ht : t ≠ t') : a ≠ b := by
  rintro rfl
  rw [h] at h'
  injection h' with h'
  injection h' with _ h'
  exact ht h'
theorem waysTo_prefix (n : Nt) (p : Pty) (but : Int) (k : Nat) : ∀ d, ∃ r, waysTo n p but (k + d) = waysTo n p but k ++ r
  | 0 => ⟨[], by simp⟩
  | d + 1 => by
    obtain ⟨r, hr⟩ := waysTo_prefix n p but k d
    rw [← Nat.add_assoc, waysTo]
    split
    · exact ⟨r ++ [_], by rw [hr, List.append_assoc]⟩
    · exact ⟨r, hr⟩
theorem find_pick {n : Nt} {p : Pty} {q : Pix n → Bool} {k : Nat} {pre : List (Pix n)} {x : Pix n} (hk : k ≤ n.paths.length) (h : pre ++ [x] = waysTo n p (-1) k) (hp : ∀ y ∈ pre, q y = false) (hx : q x = true) : (waysTo n p (-1) n.paths.length).find? q = some x := by
  obtain ⟨r, hr⟩ := waysTo_prefix n p (-1) k (n.paths.length - k)
  rw [show k + (n.paths.length - k) = n.paths.length by omega] at hr
  rw [hr, ← h, List.append_assoc, List.find?_append]
  have h1 : pre.find? q = none := List.find?_eq_none.2 (fun y hy => by rw [hp y hy]; simp)
  rw [h1]
  simp [hx]
theorem Shut.trans {B : Nat} {a b c : World} (h : Shut B a b) (k : Shut B b c) : Shut B a c :=
  ⟨k.os.trans h.os, k.tape.trans h.tape, k.output.trans h.output, Nat.le_trans h.size k.size, fun i hi => (k.low i hi).trans (h.low i hi), fun i o hi ho => k.cells i o (h.cells i o hi ho) ho⟩
/-- no path so far was taken; nothing has turned -/
def PickI {n : Nt} (q : Pix n → Bool) (w8 : World) (pre : List (Pix n)) (W : World) : Prop := (∀ x ∈ pre, q x = false) ∧ Ext w8 W
theorem PickI.own {n : Nt} {q : Pix n → Bool} {w8 : World} : OwnFrom w8.heap.size (fun (pre : List (Pix n)) W => PickI q w8 pre W) := by
  rintro s W W' row ⟨h1, h2⟩ hg hr
  exact ⟨h1, ⟨hg.os.trans h2.os, hg.tape.trans h2.tape, hg.output.trans h2.output, Nat.le_trans h2.size hg.size, fun k hk => (hg.block k (Nat.lt_of_lt_of_le hk h2.size) (fun e => by have := (hr k e.symm).1; omega)).trans (h2.block k hk)⟩⟩
/-- between two rounds of the second loop; t: the track so far; z: what the box of the counter holds -/
structure TrkSt (bR bb : Nat) (W0 : World) (t : Trk) (z : Int) (bk : Nat) (v : Value) (ds : List Deferred) (W : World) : Prop where
  same : OnlyB bR W0 W
  place : W.heap[W0.heap.size]? = some (.cells #[.int .i64 t.place] 3 (0, 0))
  at_ : W.heap[W0.heap.size + 1]? = some (.cells #[.int .i64 t.at_] 3 (0, 0))
  kbox : W.heap[bk]? = some (.cells #[.int .i64 z] 3 (0, 0))
  klt : W0.heap.size + 2 ≤ bk
  rbox : W.heap[bR]? = some (.cells #[v] 29 (0, 0))
  own : W.ownsRow (W0.heap.size + 2) 3 1 v t.route.length (t.route.map (Value.int .i64))
  onek : v.ownBlock ≠ some bk
  marks : Marks W ds
  from_ : MarksFrom bb ds
section
variable {bR bb B : Nat} {W0 W W' : World} {t : Trk} {z : Int} {bk : Nat} {v : Value} {ds : List Deferred}
theorem TrkSt.shut (h : TrkSt bR bb W0 t z bk v ds W) (hs : Shut B W W') (hB : W0.heap.size ≤ B) (hd : MarksBelow B ds) : TrkSt bR bb W0 t z bk v ds W' :=
  ⟨⟨hs.os.trans h.same.os, hs.tape.trans h.same.tape, hs.output.trans h.same.output, Nat.le_trans h.same.size hs.size, fun k h1 h2 => (hs.low k (by omega)).trans (h.same.block k h1 h2)⟩,
    hs.cells _ _ h.place rfl, hs.cells _ _ h.at_ rfl, hs.cells _ _ h.kbox rfl, h.klt, hs.cells _ _ h.rbox rfl, owns_shut h.own hs, h.onek,
    marks_kept h.marks fun D hD ⟨d, hd1, hd2⟩ => (hs.low D (hd d hd1 D hd2)).trans hD, h.from_⟩
theorem TrkSt.next {D : Nat} {Wn Wm : World} (h : TrkSt bR bb W0 t z bk v ds W) (hbR : bR < W0.heap.size) (hD : W.heap[D]? = some (.deferred (some []))) (hDn : bb ≤ D) (hne : ∀ e ∈ ds, e.target ≠ .collected D)
    (hn : W.alloc (.cells #[.int .i64 z] 3) = Wn) (hm : Wn.setCell ⟨W.heap.size, 0, none⟩ (.int .i64 (z - 1)) = Wm) :
    TrkSt bR bb W0 t (z - 1) W.heap.size v ({ target := .collected D, args := #[] } :: ds) Wm := by
  have hbk := (Array.getElem?_eq_some_iff.1 h.kbox).1
  have hG : ∀ r, r < W.heap.size → Wm.heap[r]? = W.heap[r]? := fun r hr => by
    rw [← hm, heap_set_other (by simp; omega), ← hn]
    exact Below.heap_alloc _ _ _ hr
  have hk := h.klt
  have hs : W.heap.size ≤ Wm.heap.size := by rw [← hm, ← hn]; simp [World.setCell]
  refine ⟨⟨?_, ?_, ?_, Nat.le_trans h.same.size hs, fun r h1 h2 => (hG r (by omega)).trans (h.same.block r h1 h2)⟩, (hG _ (by omega)).trans h.place, (hG _ (by omega)).trans h.at_, ?_, by omega, (hG _ (by omega)).trans h.rbox, owns_same h.own (fun g c f hg _ => hG g (owns_lt h.own hg).2.1), ?_, ⟨⟨D, rfl, (hG D (Array.getElem?_eq_some_iff.1 hD).1).trans hD, hne⟩, marks_kept h.marks fun E hE _ => (hG E (Array.getElem?_eq_some_iff.1 hE).1).trans hE⟩, ?_⟩
  · rw [← hm, ← hn]; exact h.same.os
  · rw [← hm, ← hn]; exact h.same.tape
  · rw [← hm, ← hn]; exact h.same.output
  · have h1 : Wn.heap[W.heap.size]? = some (.cells #[.int .i64 z] 3 (0, 0)) := by rw [← hn]; exact heap_alloc_new _ _
    rw [← hm]
    simp [World.setCell, Array.getElem?_modify, h1]
  · intro e
    have := (owns_lt h.own e).2.1
    omega
  · intro d hd E hE
    rcases List.mem_cons.1 hd with rfl | hd
    · cases hE; exact hDn
    · exact h.from_ d hd E hE
/-- path x was taken -/
def PickX {n : Nt} (p : Pty) (q : Pix n → Bool) (bR bb : Nat) (W0 w8 : World) (t : Trk) (z : Int) (bk : Nat) (ds : List Deferred) (c : Code) (pre : List (Pix n)) (W : World) : Prop :=
  c = .exit 6 ∧ ∃ pre' x, pre = pre' ++ [x] ∧ (∀ y ∈ pre', q y = false) ∧ q x = true ∧ ∃ X v', TrkSt bR bb W0 ⟨(nth n.paths x.1).dst, arriveOf (nth n.paths x.1) t.at_ (spanOf p (nth n.paths x.1)).hi, t.route ++ [(x.1 : Int)]⟩ z bk v' ds X ∧ w8.heap.size ≤ X.heap.size ∧ Shut w8.heap.size X W
theorem PickX.own {n : Nt} {p : Pty} {q : Pix n → Bool} {w8 : World} {t : Trk} {c : Code} : OwnFrom w8.heap.size (fun (pre : List (Pix n)) W => PickX p q bR bb W0 w8 t z bk ds c pre W) := by
  rintro s W W' row ⟨h1, pre', x, h2, h3, h4, X, v', h5, h6, h7⟩ hg hr
  exact ⟨h1, pre', x, h2, h3, h4, X, v', h5, h6, h7.trans (shut_of_grown hg (Nat.le_trans h6 h7.size) hr)⟩
theorem shut_of_ext (e : Ext W W') (hB : B ≤ W.heap.size) : Shut B W W' :=
  ⟨e.os, e.tape, e.output, e.size, fun k hk => e.block k (by omega), fun k o hk _ => (e.block k (Array.getElem?_eq_some_iff.1 hk).1).trans hk⟩
theorem TrkSt.ext_ (h : TrkSt bR bb W0 t z bk v ds W) (e : Ext W W') : TrkSt bR bb W0 t z bk v ds W' :=
  h.shut (shut_of_ext e (Nat.le_refl _)) h.same.size (marks_below h.marks)
end
/-- two stores behind a draw, in whatever order -/
structure Two (bR bA : Nat) (x y : Value) (w w' : World) : Prop where
  os : w'.os = w.os
  tape : w'.tape = w.tape
  output : w'.output = w.output
  size : w.heap.size ≤ w'.heap.size
  r : ∃ o, w'.heap[bR]? = some o ∧ o.isCells = true ∧ ∀ W : World, W.heap[bR]? = some o → W.cell? ⟨bR, 0, none⟩ = some x
  a : ∃ o, w'.heap[bA]? = some o ∧ o.isCells = true ∧ ∀ W : World, W.heap[bA]? = some o → W.cell? ⟨bA, 0, none⟩ = some y
  blk : ∀ r, r ≠ bR → r ≠ bA → w'.heap[r]? = w.heap[r]?
theorem two_of {bR bA : Nat} {x y x0 y0 : Value} {w w' : World} {tR tA : TypeId} (hne : bR ≠ bA) (hR : w.heap[bR]? = some (.cells #[x0] tR (0, 0))) (hA : w.heap[bA]? = some (.cells #[y0] tA (0, 0)))
    (hw : w' = (w.drew.setCell ⟨bR, 0, none⟩ x).setCell ⟨bA, 0, none⟩ y ∨ w' = (w.drew.setCell ⟨bA, 0, none⟩ y).setCell ⟨bR, 0, none⟩ x) : Two bR bA x y w w' := by
  have hR' : w.drew.heap[bR]? = some (.cells #[x0] tR (0, 0)) := hR
  have hA' : w.drew.heap[bA]? = some (.cells #[y0] tA (0, 0)) := hA
  have key : w'.heap[bR]? = some (.cells #[x] tR (0, 0)) ∧ w'.heap[bA]? = some (.cells #[y] tA (0, 0)) ∧ (∀ r, r ≠ bR → r ≠ bA → w'.heap[r]? = w.heap[r]?) ∧ w'.os = w.os ∧ w'.tape = w.tape ∧ w'.output = w.output ∧ w.heap.size ≤ w'.heap.size := by
    rcases hw with rfl | rfl
    · refine ⟨?_, ?_, fun r h1 h2 => ?_, rfl, rfl, rfl, ?_⟩
      · rw [heap_set_other (by exact hne)]; simp [World.setCell, Array.getElem?_modify, hR']
      · have h1 : (w.drew.setCell ⟨bR, 0, none⟩ x).heap[bA]? = some (.cells #[y0] tA (0, 0)) := (heap_set_other (by exact hne.symm)).trans hA'
        simp [World.setCell, Array.getElem?_modify] at h1 ⊢
        simp [h1]
      · rw [heap_set_other (by exact h2), heap_set_other (by exact h1)]; rfl
      · show w.drew.heap.size ≤ _
        simp [World.setCell]
    · refine ⟨?_, ?_, fun r h1 h2 => ?_, rfl, rfl, rfl, ?_⟩
      · have h1 : (w.drew.setCell ⟨bA, 0, none⟩ y).heap[bR]? = some (.cells #[x0] tR (0, 0)) := (heap_set_other (by exact hne)).trans hR'
        simp [World.setCell, Array.getElem?_modify] at h1 ⊢
        simp [h1]
      · rw [heap_set_other (by exact hne.symm)]; simp [World.setCell, Array.getElem?_modify, hA']
      · rw [heap_set_other (by exact h1), heap_set_other (by exact h2)]; rfl
      · show w.drew.heap.size ≤ _
        simp [World.setCell]
  obtain ⟨k1, k2, k3, k4, k5, k6, k7⟩ := key
  exact ⟨k4, k5, k6, k7, ⟨_, k1, rfl, fun W h => by simp [World.cell?, h]⟩, ⟨_, k2, rfl, fun W h => by simp [World.cell?, h]⟩, k3⟩
theorem ints_owns {base cap : Nat} {w : World} {D : Option Addr} {l : List Int} (h : w.ownsRow base 3 1 (.slice D l.length cap) l.length (l.map (Value.int .i64))) : Ints w D l := by
  intro h0
  have h2 := h.2
  rcases h2 with ⟨h1, h2⟩ | ⟨g, cap', _, h1, _⟩
  · omega
  · injection h1 with h1 _ _
    subst h1
    refine owns_sl h (fun k hk => ?_) h0
    rw [List.getElem?_map, List.getElem?_eq_getElem hk]
    simp [nth_eq hk]
theorem owns_weaken {B base : Nat} {w : World} {e : TypeId} {size : Nat} {v : Value} {n : Nat} {xs : List Value} (h : w.ownsRow base e size v n xs) (hB : B ≤ base) : w.ownsRow B e size v n xs := by
  obtain ⟨h1, h2⟩ := h
  rcases h2 with h2 | ⟨g, cap, cur, h3, h4, h5⟩
  · exact ⟨h1, .inl h2⟩
  · exact ⟨h1, .inr ⟨g, cap, cur, h3, Nat.le_trans hB h4, h5⟩⟩
end Go.Proofs.Ytnjlpkdpmbpblaa
