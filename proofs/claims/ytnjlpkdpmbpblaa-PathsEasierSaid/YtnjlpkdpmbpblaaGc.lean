/- Walks of arrivals, Arrive, deadlines, Latest. Conditions: in each contract. -/
import Derived.Test.YtnjlpkdpmbpblaaGb
import Derived.Deep.RegionHeld3
import Derived.OwnWalk
set_option linter.unusedVariables false
set_option linter.unusedSimpArgs false
namespace Go.Proofs.Ytnjlpkdpmbpblaa
open Go.RowKit Go.Shelf

/-! the sum of the arrivals falls with every change -/
def sumN (l : List Int) : Nat := (l.map Int.toNat).sum
theorem sumN_set {l : List Int} {i : Nat} (h : i < l.length) (x : Int) : sumN (l.set i x) + (nth l i).toNat = sumN l + x.toNat := by
  induction l generalizing i with
  | nil => simp at h
  | cons a l ih =>
    cases i with
    | zero => simp [sumN, nth]; omega
    | succ i =>
      have := ih (i := i) (by simpa using h)
      simp [sumN, nth] at this ⊢
      omega
/-- nothing below 0 -/
def NonNeg (l : List Int) : Prop := ∀ j, j < l.length → 0 ≤ nth l j
/-- a path that is usable is looked at -/
def relaxU (n : Nt) (p : Pty) (hi : Bool) (l : List Int) (i : Nat) : List Int :=
  if nth l (nth n.paths i).frm.toNat ≠ neverN ∧ arriveOf (nth n.paths i) (nth l (nth n.paths i).frm.toNat) (endOf hi (spanOf p (nth n.paths i))) < nth l (nth n.paths i).dst.toNat then
    l.set (nth n.paths i).dst.toNat (arriveOf (nth n.paths i) (nth l (nth n.paths i).frm.toNat) (endOf hi (spanOf p (nth n.paths i))))
  else l
theorem relax_usable {n : Nt} {p : Pty} {hi : Bool} {but : Int} {l : List Int} {k : Nat} (h : usable n p but k = true) : relax n p hi but l k = relaxU n p hi l k := by
  simp [usable] at h
  unfold relax relaxU
  simp [h.1, h.2]
def relaxL {n : Nt} (p : Pty) (hi : Bool) (l : List Int) (pre : List (Pix n)) : List Int := pre.foldl (fun m x => relaxU n p hi m x.1) l
theorem relaxL_snoc {n : Nt} (p : Pty) (hi : Bool) (l : List Int) (pre : List (Pix n)) (x : Pix n) : relaxL p hi l (pre ++ [x]) = relaxU n p hi (relaxL p hi l pre) x.1 := by simp [relaxL]
theorem relax_idle {n : Nt} {p : Pty} {hi : Bool} {but : Int} {l : List Int} {k : Nat} (h : usable n p but k = false) : relax n p hi but l k = l := by
  unfold relax
  dsimp only
  rw [if_neg]
  rintro ⟨h1, h2, _⟩
  simp [usable, h1, h2] at h
theorem relaxL_ways {n : Nt} (p : Pty) (hi : Bool) (but : Int) (l : List Int) : ∀ k, k ≤ n.paths.length → relaxL p hi l (waysTo n p but k) = relaxTo n p hi but l k
  | 0, _ => rfl
  | k + 1, hk => by
    have ih := relaxL_ways (n := n) p hi but l k (by omega)
    by_cases hu : usable n p but k = true
    · rw [waysTo_yes (show k < n.paths.length by omega) hu, relaxL_snoc, ih, relaxTo, relax_usable hu]
    · have hu' : usable n p but k = false := by simpa using hu
      rw [waysTo_no hu', ih, relaxTo, relax_idle hu']
theorem relaxL_round {n : Nt} (p : Pty) (hi : Bool) (but : Int) (l : List Int) : relaxL p hi l (waysTo n p but n.paths.length) = round n p hi but l := relaxL_ways p hi but l _ (Nat.le_refl _)

/-! memory -/
structure ArrSt (n0 rb bc : Nat) (K : List Nat) (W4 : World) (ds : List Deferred) (L : List Int) (fl : Bool) (W : World) : Prop where
  row : Row W rb L
  flag : W.heap[bc]? = some (.cells #[.bool fl] 4 (0, 0))
  kb : KB n0 K W4 W
  marks : Marks W ds
def MarksBelow (B : Nat) (ds : List Deferred) : Prop := ∀ d ∈ ds, ∀ D, d.target = .collected D → D < B
section
variable {n0 rb bc : Nat} {K : List Nat} {W4 W W' : World} {ds : List Deferred} {L : List Int} {fl : Bool}
theorem heap_set_other {w : World} {p : Addr} {u : Value} {k : Nat} (h : k ≠ p.block) : (w.setCell p u).heap[k]? = w.heap[k]? := Below.heap_setCell w p u k h
theorem marks_set {p : Addr} {u : Value} {c : Array Value} {t : TypeId} {f : Nat × Nat} (hm : Marks W ds) (hp : W.heap[p.block]? = some (.cells c t f)) : Marks (W.setCell p u) ds :=
  marks_kept hm fun D hD _ => by
    rw [heap_set_other]
    · exact hD
    · rintro rfl
      rw [hp] at hD
      cases hD
theorem ArrSt.ext_ (h : ArrSt n0 rb bc K W4 ds L fl W) (hi : Inb n0 K W4) (e : Ext W W') : ArrSt n0 rb bc K W4 ds L fl W' :=
  ⟨h.row.ext e, (e.block _ (Array.getElem?_eq_some_iff.1 h.flag).1).trans h.flag, h.kb.ext_ hi e, marks_kept h.marks fun _ hD _ => (e.block _ (Array.getElem?_eq_some_iff.1 hD).1).trans hD⟩
theorem ArrSt.setFlag (h : ArrSt n0 rb bc K W4 ds L fl W) (h1 : n0 ≤ bc) (h2 : bc ∉ K) (h3 : rb ≠ bc) (fl' : Bool) : ArrSt n0 rb bc K W4 ds L fl' (W.setCell ⟨bc, 0, none⟩ (.bool fl')) := by
  refine ⟨(heap_set_other (by simpa using h3)).trans h.row, ?_, h.kb.setCell h1 h2 _, marks_set h.marks h.flag⟩
  have hf := h.flag
  simp [World.setCell, Array.getElem?_modify, hf]
theorem ArrSt.setRow (h : ArrSt n0 rb bc K W4 ds L fl W) (h1 : n0 ≤ rb) (h2 : rb ∉ K) (h3 : rb ≠ bc) (i : Nat) (x : Int) : ArrSt n0 rb bc K W4 ds (L.set i x) fl (W.setCell ⟨rb, i, none⟩ (.int .i64 x)) :=
  ⟨h.row.set i x, (heap_set_other (p := ⟨rb, i, none⟩) (fun e => h3 e.symm)).trans h.flag, h.kb.setCell h1 h2 _, marks_set h.marks h.row⟩
theorem ArrSt.shut (h : ArrSt n0 rb bc K W4 ds L fl W) {B : Nat} (hs : Shut B W W') (hn : n0 ≤ B) (hK : ∀ k ∈ K, k < B) (hd : MarksBelow B ds) : ArrSt n0 rb bc K W4 ds L fl W' :=
  ⟨hs.cells _ _ h.row rfl, hs.cells _ _ h.flag rfl,
    h.kb.trans ⟨hs.os, hs.tape, hs.output, hs.size, fun k hk => hs.low k (hk.elim (fun hk => Nat.lt_of_lt_of_le hk hn) (hK k))⟩,
    marks_kept h.marks fun D hD ⟨d, hd1, hd2⟩ => (hs.low D (hd d hd1 D hd2)).trans hD⟩
theorem shut_of_grown {B : Nat} {row : Option Nat} (hg : W.grownBy W' row) (hB : B ≤ W.heap.size) (hr : ∀ r, row = some r → B ≤ r ∧ ∃ o : Obj, W.heap[r]? = some o ∧ o.isCells = false) : Shut B W W' := by
  refine ⟨hg.os, hg.tape, hg.output, hg.size, fun k hk => ?_, fun k o hk ho => (hg.block k (Array.getElem?_eq_some_iff.1 hk).1 ?_).trans hk⟩
  · exact hg.block k (by omega) (fun e => by have := (hr k e.symm).1; omega)
  · intro e
    obtain ⟨_, o', ho', hc⟩ := hr k e.symm
    rw [hk] at ho'
    cases ho'
    rw [ho] at hc
    cases hc
theorem ArrSt.flagCell (h : ArrSt n0 rb bc K W4 ds L fl W) : W.cell? ⟨bc, 0, none⟩ = some (.bool fl) := by simp [World.cell?, h.flag]
theorem ArrSt.flagFree (h : ArrSt n0 rb bc K W4 ds L fl W) : W.frozen? ⟨bc, 0, none⟩ = false := by simp [World.frozen?, h.flag]
end
theorem marks_below {W : World} {ds : List Deferred} (h : Marks W ds) : MarksBelow W.heap.size ds := by
  induction ds with
  | nil => intro d hd; cases hd
  | cons e ds ih =>
    obtain ⟨⟨D, rfl, hD, _⟩, hr⟩ := h
    intro d hd E hE
    rcases List.mem_cons.1 hd with rfl | hd
    · cases hE
      exact (Array.getElem?_eq_some_iff.1 hD).1
    · exact ih hr d hd E hE
/-- the row as the measure of the loop reads it -/
def rowOf (w : World) (b : Nat) : List Int := match w.heap[b]? with | some (.cells cs _ _) => cs.toList.map intOf | _ => []
theorem rowOf_row {w : World} {b : Nat} {L : List Int} (h : Row w b L) : rowOf w b = L := by
  unfold Row at h
  simp only [rowOf, h, List.map_map]
  conv => rhs; rw [← List.map_id L]
  apply List.map_congr_left
  intro a _
  rfl
def flagOf (w : World) (v : Value) : Nat := match v with | .pointer (some a) => (match w.cell? a with | some (.bool true) => 1 | _ => 0) | _ => 0
end Go.Proofs.Ytnjlpkdpmbpblaa
namespace Go.Proofs.Ytnjlpkdpmbpblaa
open Go.RowKit Go.Shelf Go.Sort
attribute [local go_sem] Oper.semAt_some

theorem heap_alloc_new' {w : World} {o : Obj} {k : Nat} (h : k = w.heap.size) : (w.alloc o).heap[k]? = some o := by subst h; exact heap_alloc_new w o
theorem slices_RepeatI (A : Option Addr) (c : Nat) (x n : Int) (w : World) (hx : Ints w A [x]) (h1 : 1 ≤ n) (h2 : n ≤ 1000) :
    Calls Try.prog 41 #[.slice A 1 c, .int .i64 n] w fun e w' => ∃ b, e = .returned (.slice (some ⟨b, 0, none⟩) n.toNat n.toNat) ∧ w.heap.size ≤ b ∧ Row w' b (List.replicate n.toNat x) ∧ Ext w w' := by
  have h := slices_Repeat A c x n.toNat w hx (by omega) (by omega)
  rwa [show ((n.toNat : Nat) : Int) = n from by omega] at h

theorem Ext.trans_shut {a w W : World} (h : Ext a w) (hs : Shut a.heap.size w W) : Ext a W := ⟨hs.os.trans h.os, hs.tape.trans h.tape, hs.output.trans h.output, Nat.le_trans h.size hs.size, fun k hk => (hs.low k hk).trans (h.block k hk)⟩
/-- the head of the loop: some rounds are over, the flag says whether the last one turned anything -/
def ArrRel (n : Nt) (p : Pty) (hi : Bool) (but frm start : Int) (n0 rb : Nat) (K : List Nat) (W4 : World) (u12 : Value) (ds : List Deferred) (W : World) : Prop :=
  ∃ (bc k : Nat) (fl : Bool), u12 = .pointer (some ⟨bc, 0, none⟩) ∧ ArrSt n0 rb bc K W4 ds (rounds n p hi but (startAt n frm start) k) fl W ∧ n0 ≤ bc ∧ bc ∉ K ∧ rb ≠ bc ∧
    (fl = false → round n p hi but (rounds n p hi but (startAt n frm start) k) = rounds n p hi but (startAt n frm start) k) ∧ MarksFrom n0 ds
/-- between two rounds of the loop over the paths -/
def RngI {n : Nt} (p : Pty) (hi : Bool) (n0 rb bc B0 : Nat) (K : List Nat) (W4 : World) (ds : List Deferred) (L : List Int) (pre : List (Pix n)) (W : World) : Prop :=
  ∃ fl, ArrSt n0 rb bc K W4 ds (relaxL p hi L pre) fl W ∧ (fl = false → relaxL p hi L pre = L) ∧ (fl = true → sumN (relaxL p hi L pre) < sumN L) ∧ B0 ≤ W.heap.size
theorem RngI.own {n : Nt} {p : Pty} {hi : Bool} {n0 rb bc B0 : Nat} {K : List Nat} {W4 : World} {ds : List Deferred} {L : List Int} (hn : n0 ≤ B0) (hK : ∀ k ∈ K, k < B0) (hd : MarksBelow B0 ds) :
    OwnFrom B0 (fun (pre : List (Pix n)) W => RngI p hi n0 rb bc B0 K W4 ds L pre W) := by
  rintro s W W' row ⟨fl, h1, h2, h3, h4⟩ hg hr
  exact ⟨fl, h1.shut (shut_of_grown hg h4 hr) hn hK hd, h2, h3, Nat.le_trans h4 hg.size⟩
theorem RngI.ext_ {n : Nt} {p : Pty} {hi : Bool} {n0 rb bc B0 : Nat} {K : List Nat} {W4 W W' : World} {ds : List Deferred} {L : List Int} {pre : List (Pix n)} (h : RngI p hi n0 rb bc B0 K W4 ds L pre W) (hi4 : Inb n0 K W4) (e : Ext W W') :
    RngI p hi n0 rb bc B0 K W4 ds L pre W' := by
  obtain ⟨fl, h1, h2, h3, h4⟩ := h
  exact ⟨fl, h1.ext_ hi4 e, h2, h3, Nat.le_trans h4 e.size⟩
theorem arriveOf_nonneg {x : Pth} {a t : Int} (ha : 0 ≤ a) (ha2 : a ≤ 1073741824) (ht : 0 ≤ t) : 0 ≤ arriveOf x a t := by
  have h := enter_ge x.opens (a := a) (e := neverN) ha2
  unfold arriveOf enterOf
  split
  · decide
  · omega
theorem relax_nonneg {n : Nt} {p : Pty} {hi : Bool} {but : Int} {l : List Int} {i : Nat} (hd : (nth n.paths i).dst.toNat < l.length) (hf : (nth n.paths i).frm.toNat < l.length) (h : NonNeg l) (hT : Top l) (ht : 0 ≤ endOf hi (spanOf p (nth n.paths i))) : NonNeg (relax n p hi but l i) := by
  intro j hj
  rw [relax_length] at hj
  unfold relax
  dsimp only
  split
  · rw [nth_set hd]
    split
    · exact arriveOf_nonneg (h _ hf) (hT _ hf) ht
    · exact h j hj
  · exact h j hj
/-- a row that is in order -/
def Good (n : Nt) (l : List Int) : Prop := l.length = n.places.toNat ∧ NonNeg l ∧ Top l
section
variable {n : Nt} {p : Pty} {hi : Bool} {but : Int}
theorem endOf_bd (hok : netOk n = true) (hpk : partyOk p = true) {i : Nat} (h : i < n.paths.length) : 0 ≤ endOf hi (spanOf p (nth n.paths i)) ∧ endOf hi (spanOf p (nth n.paths i)) ≤ 5220 := by
  unfold endOf
  split
  · exact spanOf_bd hok hpk h
  · exact spanOf_bdlo hok hpk h
theorem good_relax (hok : netOk n = true) (hpk : partyOk p = true) {l : List Int} {i : Nat} (h : Good n l) (hl : i < n.paths.length) : Good n (relax n p hi but l i) := by
  obtain ⟨h1, h2, h3⟩ := h
  have hd : (nth n.paths i).dst.toNat < l.length := by rw [h1]; exact inDst_of_ok hok i hl
  have hf : (nth n.paths i).frm.toNat < l.length := by rw [h1]; exact frm_of_ok hok hl
  exact ⟨by rw [relax_length, h1], relax_nonneg hd hf h2 h3 (endOf_bd hok hpk hl).1, top_relax h3 i hd⟩
theorem good_relaxU (hok : netOk n = true) (hpk : partyOk p = true) {l : List Int} {i : Nat} (h : Good n l) (hl : i < n.paths.length) : Good n (relaxU n p hi l i) := by
  obtain ⟨h1, h2, h3⟩ := h
  have hd : (nth n.paths i).dst.toNat < l.length := by rw [h1]; exact inDst_of_ok hok i hl
  have hf : (nth n.paths i).frm.toNat < l.length := by rw [h1]; exact frm_of_ok hok hl
  unfold relaxU
  split
  · refine ⟨by simpa using h1, fun j hj => ?_, fun j hj => ?_⟩
    · rw [nth_set hd]
      split
      · exact arriveOf_nonneg (h2 _ hf) (h3 _ hf) (endOf_bd hok hpk hl).1
      · exact h2 _ (by simpa using hj)
    · rw [nth_set hd]
      split
      · exact arriveOf_le _ _ _
      · exact h3 _ (by simpa using hj)
  · exact ⟨h1, h2, h3⟩
theorem good_relaxL (hok : netOk n = true) (hpk : partyOk p = true) (pre : List (Pix n)) : ∀ {l : List Int}, Good n l → Good n (relaxL p hi l pre) := by
  induction pre with
  | nil => exact fun h => h
  | cons x pre ih => exact fun h => ih (good_relaxU hok hpk h x.2)
theorem good_relaxTo (hok : netOk n = true) (hpk : partyOk p = true) {l : List Int} (h : Good n l) : ∀ k, k ≤ n.paths.length → Good n (relaxTo n p hi but l k)
  | 0, _ => h
  | k + 1, hk => good_relax hok hpk (good_relaxTo hok hpk h k (by omega)) hk
theorem good_rounds (hok : netOk n = true) (hpk : partyOk p = true) {l : List Int} (h : Good n l) : ∀ k, Good n (rounds n p hi but l k)
  | 0 => h
  | k + 1 => good_relaxTo hok hpk (good_rounds hok hpk h k) _ (Nat.le_refl _)
theorem good_startAt {frm start : Int} (hf : frm.toNat < n.places.toNat) (hs : 0 ≤ start ∧ start ≤ 2880) : Good n (startAt n frm start) := by
  refine ⟨startAt_length _ _ _, fun j hj => ?_, top_startAt hf (by unfold neverN; omega)⟩
  rw [startAt_length] at hj
  rw [nth_startAt hf j hj]
  split
  · exact hs.1
  · decide
end
theorem keepsFrom_ext {B : Nat} {X W W' : World} (h : KeepsFrom B X W) (e : Ext W W') : KeepsFrom B X W' := h.trans (KeepsFrom.of_grownBy (grown_of_ext e) (fun j hj => by cases hj))
theorem keepsFrom_set {B : Nat} {X W : World} (h : KeepsFrom B X W) {p : Addr} {u : Value} {c : Array Value} {t : TypeId} {f : Nat × Nat} (hp : W.heap[p.block]? = some (.cells c t f)) : KeepsFrom B X (W.setCell p u) := by
  refine ⟨Nat.le_trans h.size (by simp [World.setCell]), fun k o hk h0 ho => ?_⟩
  have h1 := h.same k o hk h0 ho
  rw [heap_set_other]
  · exact h1
  · rintro rfl
    rw [hp] at h1
    cases h1
    cases ho
theorem flagOf_cell {w : World} {p : Addr} {b : Bool} (h : w.cell? p = some (.bool b)) : flagOf w (.pointer (some p)) = if b then 1 else 0 := by
  cases b <;> simp [flagOf, h]
theorem ways_stops (n : Nt) (p : Pty) (A : Option Addr) (B : Nat → Option Addr) (C : Nat → Nat) (c : Nat) (but : Int) (Bw Bb : Nat) (m : Nat) (w w6 : World) (hn : Pths w A B C n.paths) (hlen : n.paths.length ≤ 1000) (hx : Ext w w6) (hinb : Inb w.heap.size [Bw, Bb] w6)
    (hbw : ∀ j, w6.cell? ⟨Bw, j, none⟩ = (#[.int .i64 n.places, .slice A n.paths.length c, .int .i64 p.grade, .int .i64 p.load, .int .i64 p.pace.lo, .int .i64 p.pace.hi] : Array Value)[j]?)
    (hbb : w6.cell? ⟨Bb, 0, none⟩ = some (.int .i64 but)) :
    SeqStopsK Fence.wide (m + 1) Try.prog 65 #[.pointer (some ⟨Bw, 0, none⟩), .pointer (some ⟨Bb, 0, none⟩)] (fun x : Pix n => #[.int .i64 (x.1 : Int), vPth B C n.paths x.1]) (KB w.heap.size [Bw, Bb])
      (fun ys => ys = waysTo n p but n.paths.length) (fun pre => ∃ k, k ≤ n.paths.length ∧ pre = waysTo n p but k) n.paths.length w6 := fun l J Jx W hW hJ _ hY h0 => by
  have hkW : KB w.heap.size [Bw, Bb] w6 W := KB.of_ext hinb hW
  have hkey : ∀ W', KB w.heap.size [Bw, Bb] W W' → KB w.heap.size [Bw, Bb] w6 W' := fun W' h => hkW.trans h
  exact paths_ways1 m n p A B C c but Bw Bb w.heap.size l J Jx hlen W hJ hY (fun W' h => hn.ext (Below.trans hx (hkey W' h).below))
    (fun W' j h => by rw [(hkey W' h).cell (.inr (by simp))]; exact hbw j) (fun W' h => by rw [(hkey W' h).cell (.inr (by simp))]; exact hbb) (hinb.kb hkW) h0
set_option maxRecDepth 100000 in
set_option maxHeartbeats 2000000 in
theorem paths_arrivals (n : Nt) (p : Pty) (hi : Bool) (but frm start : Int) (A : Option Addr) (B : Nat → Option Addr) (C : Nat → Nat) (c : Nat) (Fe : FuncId) (w : World) (hn : Pths w A B C n.paths) (hok : netOk n = true) (hpk : partyOk p = true)
    (hf : 0 ≤ frm ∧ frm ≤ n.places - 1) (hs : 0 ≤ start ∧ start ≤ 2880)
    (hent : ∀ args w, (callFunc Fe args).run Try.prog w = .ok (.enter Fe args) w)
    (hfe : ∀ s W, Calls Try.prog Fe #[vSpn s] W fun e w' => e = .returned (.int .i64 (endOf hi s)) ∧ Ext W w') :
    Calls Try.prog 29 #[vWalk n p A c, .int .i64 frm, .int .i64 start, .int .i64 but, .func (.func Fe) #[] #[]] w fun e w' => ∃ b l, e = .returned (.slice (some ⟨b, 0, none⟩) l.length l.length) ∧ w.heap.size ≤ b ∧ Row w' b l ∧ Arr n p hi but frm start l ∧ Ext w w' := by
  refine (callsIn_wide (n := 6)).1 ?_
  dsimp only [vWalk]
  obtain ⟨⟨np1, np2⟩, nlen, hall⟩ := netOk_iff.1 hok
  obtain ⟨f1, f2⟩ := hf
  obtain ⟨s1, s2⟩ := hs
  have HALL := Lib.hid hall
  have HN := Lib.hid hn
  have HOK := Lib.hid hok
  have HPK := Lib.hid hpk
  have HFE := Lib.hid hfe
  clear hall hn hok hpk hfe
  obtain ⟨W1, hW1⟩ : ∃ W1, ((w.alloc (.cells #[.int .i64 n.places, .slice A n.paths.length c, .int .i64 p.grade, .int .i64 p.load, .int .i64 p.pace.lo, .int .i64 p.pace.hi] 74)).alloc (.cells #[.func (.func Fe) #[] #[]] 81)).alloc (.cells #[.int .i64 1073741824] 3) = W1 := ⟨_, rfl⟩
  have hx1 : Ext w W1 := hW1 ▸ (((Ext.refl w).alloc _).alloc _).alloc _
  have b : ∀ W9 j, Ext W1 W9 → W9.cell? ⟨w.heap.size, j, none⟩ = (#[.int .i64 n.places, .slice A n.paths.length c, .int .i64 p.grade, .int .i64 p.load, .int .i64 p.pace.lo, .int .i64 p.pace.hi] : Array Value)[j]? := fun W9 j h => by rw [h.cell (by rw [← hW1]; simp only [World.size_alloc]; omega), ← hW1]; simp [go_sem]
  have d : ∀ W9 j, Ext W1 W9 → W9.cell? ⟨w.heap.size + 1, j, none⟩ = (#[.func (.func Fe) #[] #[]] : Array Value)[j]? := fun W9 j h => by rw [h.cell (by rw [← hW1]; simp only [World.size_alloc]; omega), ← hW1]; simp [go_sem]
  have i1 : Ints W1 (some ⟨w.heap.size + 1 + 1, 0, none⟩) [1073741824] := by
    refine Row.ints (b := w.heap.size + 1 + 1) ?_
    rw [← hW1]
    unfold Row
    rw [heap_alloc_new' (by simp)]
    rfl
  have I1 := Lib.hid i1
  have hsz1 : w.heap.size + 1 + 1 < W1.heap.size := by rw [← hW1]; simp
  clear i1
  refine callsIn_of_wp_marks Try.func29 rfl trivial ?_ rfl
  simp only [Try.ntmps29, List.size_toArray, List.length_cons, List.length_nil, Nat.reduceAdd, Nat.reduceSub, Array.replicate_succ, Array.replicate_zero, List.push_toArray, List.append_toArray, List.nil_append, List.cons_append]
  gi_wp2_with fail
  refine ⟨trivial, ?_⟩
  refine (callsIn_wide.2 (slices_RepeatI _ 1 1073741824 n.places W1 I1.out np1 (by omega))).mono ?_
  rintro e w2 ⟨rb, rfl, hrb, hrow, hx2⟩
  have hx02 : Ext w w2 := hx1.trans hx2
  have hrw : rb < w2.heap.size := hrow.lt
  obtain ⟨N, hN⟩ : ∃ N, N = n.places.toNat := ⟨_, rfl⟩
  rw [← hN] at hrow ⊢
  have hfN : frm.toNat < N := by omega
  have hfI : frm < (N : Int) := by omega
  have HNN := Lib.hid hN
  have hfP : frm.toNat < n.places.toNat := by omega
  clear hN
  obtain ⟨W3, hW3⟩ : ∃ W3, w2.alloc (.cells #[.slice (some ⟨rb, 0, none⟩) N N] 29) = W3 := ⟨_, rfl⟩
  have hx3 : Ext w2 W3 := hW3 ▸ (Ext.refl w2).alloc _
  have q3 : ∀ W9 j, Ext W3 W9 → W9.cell? ⟨w2.heap.size, j, none⟩ = (#[.slice (some ⟨rb, 0, none⟩) N N] : Array Value)[j]? := fun W9 j h => by rw [h.cell (by rw [← hW3]; simp only [World.size_alloc]; omega), ← hW3]; simp [go_sem]
  have r3 : Row W3 rb (List.replicate N 1073741824) := hrow.ext hx3
  have c3 : W3.cell? ⟨rb, frm.toNat, none⟩ = some (.int .i64 (nth (List.replicate N 1073741824) frm.toNat)) := r3.cell (by simpa using hfN)
  have z3 : W3.frozen? ⟨rb, frm.toNat, none⟩ = false := r3.frozen _
  obtain ⟨W4, hW4⟩ : ∃ W4, (W3.setCell ⟨rb, frm.toNat, none⟩ (.int .i64 start)).alloc (.cells #[.bool true] 4) = W4 := ⟨_, rfl⟩
  have hr4 : Row W4 rb (startAt n frm start) := by
    have h := (r3.set frm.toNat start).ext ((Ext.refl (W3.setCell ⟨rb, frm.toNat, none⟩ (.int .i64 start))).alloc (.cells #[.bool true] 4))
    rw [hW4] at h
    unfold startAt
    rw [← HNN.out]
    exact h
  have hs23 : w2.heap.size < W3.heap.size := by rw [← hW3]; simp
  have hsw2 : w.heap.size + 1 + 1 < w2.heap.size := Nat.lt_of_lt_of_le hsz1 hx2.size
  have hs34 : W3.heap.size < W4.heap.size := by rw [← hW4]; simp [World.setCell]
  have hst4 : ArrSt w.heap.size rb W3.heap.size [w.heap.size, w.heap.size + 1, w2.heap.size] W4 [] (startAt n frm start) true W4 :=
    ⟨hr4, by rw [← hW4]; exact heap_alloc_new' (by simp [World.setCell]), KB.refl _ _ _, trivial⟩
  have hx24 : KB w.heap.size [w.heap.size, w.heap.size + 1] W1 W4 := by
    have h0 : Inb w.heap.size [w.heap.size, w.heap.size + 1] W1 := ⟨by omega, by simp; omega⟩
    have h1 := (KB.of_ext h0 (hx2.trans hx3)).setCell (p := ⟨rb, frm.toNat, none⟩) (by simp; omega) (by simp; omega) (.int .i64 start)
    have h2 := h1.alloc h0 (.cells #[.bool true] 4)
    rwa [hW4] at h2
  have hinb4 : Inb w.heap.size [w.heap.size, w.heap.size + 1, w2.heap.size] W4 := ⟨by omega, by simp; omega⟩
  have B4 : ∀ W' j, KB w.heap.size [w.heap.size, w.heap.size + 1, w2.heap.size] W4 W' → W'.cell? ⟨w.heap.size, j, none⟩ = (#[.int .i64 n.places, .slice A n.paths.length c, .int .i64 p.grade, .int .i64 p.load, .int .i64 p.pace.lo, .int .i64 p.pace.hi] : Array Value)[j]? := fun W' j h => by
    rw [h.cell (.inr (by simp)), hx24.cell (.inr (by simp))]
    exact b W1 j (Ext.refl _)
  have D4 : ∀ W', KB w.heap.size [w.heap.size, w.heap.size + 1, w2.heap.size] W4 W' → W'.cell? ⟨w.heap.size + 1, 0, none⟩ = some (.func (.func Fe) #[] #[]) := fun W' h => by
    rw [h.cell (.inr (by simp)), hx24.cell (.inr (by simp)), d W1 0 (Ext.refl _)]
    rfl
  have Q4 : ∀ W', KB w.heap.size [w.heap.size, w.heap.size + 1, w2.heap.size] W4 W' → W'.cell? ⟨w2.heap.size, 0, none⟩ = some (.slice (some ⟨rb, 0, none⟩) N N) := fun W' h => by
    rw [h.cell (.inr (by simp)), ← hW4, World.cell?_alloc_lt _ _ _ (by simp [World.setCell]; omega), World.cell?_setCell_other _ _ _ _ (by intro e; injection e with e; omega), q3 W3 0 (Ext.refl _)]
    rfl
  have hx04 : Ext w W4 := by
    have h := ((hx02.trans hx3).setCell (p := ⟨rb, frm.toNat, none⟩) (by simp; omega) (.int .i64 start)).alloc (.cells #[.bool true] 4)
    rwa [hW4] at h
  have HX4 : ∀ W', KB w.heap.size [w.heap.size, w.heap.size + 1, w2.heap.size] W4 W' → Ext w W' := fun W' h => Below.trans hx04 h.below
  have hrw4 : w.heap.size ≤ rb ∧ rb ∉ [w.heap.size, w.heap.size + 1, w2.heap.size] ∧ rb ≠ W3.heap.size := ⟨by omega, by simp; omega, by omega⟩
  have hbc4 : w.heap.size ≤ W3.heap.size ∧ W3.heap.size ∉ [w.heap.size, w.heap.size + 1, w2.heap.size] := ⟨by omega, by simp; omega⟩
  gi_wp2_with fail
  refine wpIn_loop (fun a W => ∃ (u12 u25 u26 u27 u28 u62 : Value) (ds : List Deferred), ArrRel n p hi but frm start w.heap.size rb [w.heap.size, w.heap.size + 1, w2.heap.size] W4 u12 ds W ∧ a = ⟨#[.agg #[.int .i64 n.places, .slice A n.paths.length c, .int .i64 p.grade, .int .i64 p.load, .int .i64 p.pace.lo, .int .i64 p.pace.hi], .int .i64 frm, .int .i64 start, .int .i64 but, .func (.func Fe) #[] #[], .pointer (some ⟨w.heap.size, 0, none⟩), undef, undef, undef, .pointer (some ⟨w.heap.size + 1, 0, none⟩), .slice none 0 0, .pointer (some ⟨w2.heap.size, 0, none⟩), u12, undef, undef, undef, .slice (some ⟨w.heap.size + 1 + 1, 0, none⟩) 1 1, .pointer (some ⟨w.heap.size, 0, none⟩), .pointer (some ⟨w.heap.size, 0, none⟩), .int .i64 n.places, .slice (some ⟨rb, 0, none⟩) N N, .slice (some ⟨rb, 0, none⟩) N N, .int .i64 frm, .int .i64 start, .pointer (some ⟨rb, frm.toNat, none⟩), u25, u26, u27, u28, undef, undef, undef, undef, undef, undef, undef, undef, undef, undef, undef, undef, undef, undef, undef, undef, undef, undef, undef, undef, undef, undef, undef, undef, undef, undef, undef, undef, undef, undef, undef, undef, undef, u62, undef], ds⟩) (fun a W => 2 * sumN (rowOf W rb) + flagOf W (a.tmps.getD 12 undef)) ?_ ?_
  · exact ⟨_, _, _, _, _, _, [], ⟨W3.heap.size, 0, true, rfl, hst4, hbc4.1, hbc4.2, hrw4.2.2, by simp, by simp [MarksFrom]⟩, rfl⟩
  · rintro a wo ⟨u12, u25, u26, u27, u28, u62, ds, ⟨bc, k, fl, rfl, hst, hb1, hb2, hb3, hfl, hmf⟩, rfl⟩
    have hfc := hst.flagCell
    have hkb := hst.kb
    have HFL := Lib.hid hfl
    clear hfl
    cases fl with
    | false =>
      have hfx := HFL.out rfl
      have HFX := Lib.hid hfx
      clear hfx HFL
      gi_wp2_with fail
      have hlen : (rounds n p hi but (startAt n frm start) k).length = N := by rw [rounds_length, startAt_length, ← HNN.out]
      refine leaves_marks (n0 := w.heap.size) (v := .slice (some ⟨rb, 0, none⟩) N N) ds _ hst.marks hmf (fun W hsh => ⟨by rw [results_tmp (t := 10) rfl]; rfl, rb, rounds n p hi but (startAt n frm start) k, ?_, hrw4.1, hsh.cells _ _ hst.row rfl, ⟨⟨k, rfl⟩, HFX.out⟩, ?_⟩)
      · rw [hlen]
      · exact (HX4 _ hkb).trans_shut hsh
    | true =>
      have hff := hst.flagFree
      have hst1 := hst.setFlag hb1 hb2 hb3 false
      have hw := fun W => paths_ways n p A c but W
      have HW := Lib.hid hw
      clear hw
      obtain ⟨wf, hwf⟩ : ∃ wf, wo.setCell ⟨bc, 0, none⟩ (.bool false) = wf := ⟨_, rfl⟩
      rw [hwf] at hst1
      have hkf := hst1.kb
      have hbcf : bc < wf.heap.size := (Array.getElem?_eq_some_iff.1 hst1.flag).1
      gi_wp2_with fail
      refine ⟨trivial, ?_⟩
      refine (callsIn_wide.2 (HW.out _)).mono ?_
      rintro e w6 ⟨rfl, hw6⟩
      have hx6 : Ext wf w6 := hw6 ▸ ((Ext.refl wf).alloc _).alloc _
      have hst6 := hst1.ext_ hinb4 hx6
      have hsz6 : wf.heap.size + 1 < w6.heap.size := by rw [← hw6]; simp
      have y : ∀ W9 j, Ext w6 W9 → W9.cell? ⟨wf.heap.size, j, none⟩ = (#[.int .i64 n.places, .slice A n.paths.length c, .int .i64 p.grade, .int .i64 p.load, .int .i64 p.pace.lo, .int .i64 p.pace.hi] : Array Value)[j]? := fun W9 j h => by rw [h.cell (by rw [← hw6]; simp only [World.size_alloc]; omega), ← hw6]; simp [go_sem]
      have x : ∀ W9 j, Ext w6 W9 → W9.cell? ⟨wf.heap.size + 1, j, none⟩ = (#[.int .i64 but] : Array Value)[j]? := fun W9 j h => by rw [h.cell (by rw [← hw6]; simp only [World.size_alloc]; omega), ← hw6]; simp [go_sem]
      have hxw6 : Ext w w6 := HX4 _ hst6.kb
      have hszf : w2.heap.size < wf.heap.size := Nat.lt_of_lt_of_le (Nat.lt_trans hs23 hs34) hkf.below.size
      have hszw : w2.heap.size + 1 < w6.heap.size := by omega
      have HN6 := HN.out.ext hxw6
      gi_wp2_with fail
      have hmb : MarksBelow w6.heap.size ds := marks_below hst6.marks
      have hinb6 : Inb w.heap.size [wf.heap.size, wf.heap.size + 1] w6 := ⟨hxw6.size, by intro k hk; simp only [List.mem_cons, List.not_mem_nil, or_false] at hk; omega⟩
      have hK6 : ∀ k ∈ [w.heap.size, w.heap.size + 1, w2.heap.size], k < w6.heap.size := by intro k hk; simp only [List.mem_cons, List.not_mem_nil, or_false] at hk; omega
      have hput6 : ∀ (W : World) (l : Nat) (o o' : Obj), w6.heap.size ≤ l → W.heap[l]? = some o → o.isCells = false → o.isWalk = false → KB w.heap.size [wf.heap.size, wf.heap.size + 1] W (W.putObj l o') := fun W l o o' hl _ _ _ => (KB.refl _ _ _).putObj (by omega) (by simp only [List.mem_cons, List.not_mem_nil, or_false]; omega) o'
      have hAx6 : ∀ (T : Nat → Act) (x : Pix n) (a' : Act), OwnFrom w6.heap.size (fun (_ : Unit) W => ∃ Bx, W.heap[Bx]? = some (.cells (vPth B C n.paths x.1).cells 34 (0, 0)) ∧ a' = T Bx) :=
        fun T x a' _ W W' row ⟨Bx, h1, h2⟩ hg hr => ⟨Bx, (hg.block Bx (Array.getElem?_eq_some_iff.1 h1).1 (fun e => by obtain ⟨_, o, ho, hc⟩ := hr Bx e.symm; rw [h1] at ho; cases ho; cases hc)).trans h1, h2⟩
      refine wpIn_rangeFunc_ownH rfl (by omega) (gf := 65) (lb := #[.pointer (some ⟨wf.heap.size, 0, none⟩), .pointer (some ⟨wf.heap.size + 1, 0, none⟩)]) rfl trivial (enters_of Try.func65 (by kernel_rfl) rfl)
        (ways_stops n p A B C c but wf.heap.size (wf.heap.size + 1) 4 w w6 HN.out (by omega) hxw6 hinb6 (fun j => y w6 j (Ext.refl _)) (by rw [x w6 0 (Ext.refl _)]; rfl))
        KB.trans hput6 (Below.refl _ _) (fun _ => rfl)
        (RngI p hi w.heap.size rb bc w6.heap.size [w.heap.size, w.heap.size + 1, w2.heap.size] W4 ds (rounds n p hi but (startAt n frm start) k)) (fun _ _ _ => False)
        (RngI.own hxw6.size hK6 hmb) (fun _ _ _ _ _ h _ _ => h) ⟨false, hst6, fun _ => rfl, by simp, Nat.le_refl _⟩
        (fun x a' W => ∃ Bx, W.heap[Bx]? = some (.cells (vPth B C n.paths x.1).cells 34 (0, 0)) ∧ a' = ⟨#[.agg #[.int .i64 n.places, .slice A n.paths.length c, .int .i64 p.grade, .int .i64 p.load, .int .i64 p.pace.lo, .int .i64 p.pace.hi], .int .i64 frm, .int .i64 start, .int .i64 but, .func (.func Fe) #[] #[], .pointer (some ⟨w.heap.size, 0, none⟩), undef, undef, undef, .pointer (some ⟨w.heap.size + 1, 0, none⟩), .slice none 0 0, .pointer (some ⟨w2.heap.size, 0, none⟩), .pointer (some ⟨bc, 0, none⟩), .int .i64 (x.1 : Int), .pointer (some ⟨Bx, 0, none⟩), undef, .slice (some ⟨w.heap.size + 1 + 1, 0, none⟩) 1 1, .pointer (some ⟨w.heap.size, 0, none⟩), .pointer (some ⟨w.heap.size, 0, none⟩), .int .i64 n.places, .slice (some ⟨rb, 0, none⟩) N N, .slice (some ⟨rb, 0, none⟩) N N, .int .i64 frm, .int .i64 start, .pointer (some ⟨rb, frm.toNat, none⟩), .bool true, .agg #[.int .i64 n.places, .slice A n.paths.length c, .int .i64 p.grade, .int .i64 p.load, .int .i64 p.pace.lo, .int .i64 p.pace.hi], .int .i64 but, .func (.func 65) #[] #[.pointer (some ⟨wf.heap.size, 0, none⟩), .pointer (some ⟨wf.heap.size + 1, 0, none⟩)], .int .i64 (x.1 : Int), vPth B C n.paths x.1, undef, undef, undef, undef, undef, undef, undef, undef, undef, undef, undef, undef, undef, undef, undef, undef, undef, undef, undef, undef, undef, undef, undef, undef, undef, undef, undef, undef, undef, undef, undef, u62, undef], []⟩)
        (fun x a' => hAx6 _ x a')
        ?assign ?body ?done ?stop
      case assign =>
        intro l pre x W K hI hK
        have hWs : w6.heap.size ≤ W.heap.size := hI.choose_spec.2.2.2
        have hiW : Inb w.heap.size [wf.heap.size, wf.heap.size + 1] W := ⟨Nat.le_trans hinb6.low hWs, fun k hk => Nat.lt_of_lt_of_le (hinb6.own k hk) hWs⟩
        gi_wp2
        exact hK _ _ (keepsFrom_ext (KeepsFrom.refl _ _) ((Ext.refl W).alloc _)) ((KB.refl _ _ _).alloc hiW _) (hI.ext_ hinb4 ((Ext.refl W).alloc _)) ⟨W.heap.size, heap_alloc_new _ _, rfl⟩
      case body =>
        intro l pre x a' W hl hlr hI hA hpl
        obtain ⟨Bx, hbx, rfl⟩ := hA
        obtain ⟨fl1, hst1, hfF, hfT, hB0⟩ := hI
        have hgood := good_relaxL (hi := hi) HOK.out HPK.out pre (good_rounds (hi := hi) (but := but) HOK.out HPK.out (good_startAt hfP ⟨s1, s2⟩) k)
        generalize hLe : relaxL p hi (rounds n p hi but (startAt n frm start) k) pre = L at *
        have HLE := Lib.hid hLe
        have HFF := Lib.hid hfF
        have HFT := Lib.hid hfT
        have HG := Lib.hid hgood
        clear hLe hfF hfT hgood
        have hbW : ∀ W9 j, Ext W W9 → W9.cell? ⟨w.heap.size, j, none⟩ = (#[.int .i64 n.places, .slice A n.paths.length c, .int .i64 p.grade, .int .i64 p.load, .int .i64 p.pace.lo, .int .i64 p.pace.hi] : Array Value)[j]? := fun W9 j h => B4 W9 j (hst1.kb.ext_ hinb4 h)
        have hdW : ∀ W9, Ext W W9 → W9.cell? ⟨w.heap.size + 1, 0, none⟩ = some (.func (.func Fe) #[] #[]) := fun W9 h => D4 W9 (hst1.kb.ext_ hinb4 h)
        have hqW : ∀ W9, Ext W W9 → W9.cell? ⟨w2.heap.size, 0, none⟩ = some (.slice (some ⟨rb, 0, none⟩) N N) := fun W9 h => Q4 W9 (hst1.kb.ext_ hinb4 h)
        obtain ⟨i, hil⟩ := x
        dsimp only [vPth, Value.cells] at hbx
        obtain ⟨⟨F0, F1⟩, ⟨D0, D1⟩, _, _, _, _, olen, _⟩ := pathOk_iff.1 (HALL.out _ (nth_mem hil))
        have hNI := HNN.out
        have F2 : (nth n.paths i).frm.toNat < N := by omega
        have F3 : (nth n.paths i).frm < (N : Int) := by omega
        have D2 : (nth n.paths i).dst.toNat < N := by omega
        have D3 : (nth n.paths i).dst < (N : Int) := by omega
        have hLl : L.length = N := by rw [HG.out.1, hNI]
        have rF : ∀ W9, Ext W W9 → W9.cell? ⟨rb, (nth n.paths i).frm.toNat, none⟩ = some (.int .i64 (nth L (nth n.paths i).frm.toNat)) := fun W9 h => (hst1.row.ext h).cell (by omega)
        have rD : ∀ W9, Ext W W9 → W9.cell? ⟨rb, (nth n.paths i).dst.toNat, none⟩ = some (.int .i64 (nth L (nth n.paths i).dst.toNat)) := fun W9 h => (hst1.row.ext h).cell (by omega)
        have xW : ∀ W9 j, Ext W W9 → W9.cell? ⟨Bx, j, none⟩ = (#[.int .i64 (nth n.paths i).frm, .int .i64 (nth n.paths i).dst, .int .i64 (nth n.paths i).grade, .int .i64 (nth n.paths i).time.lo, .int .i64 (nth n.paths i).time.hi, .int .i64 (nth n.paths i).snow.lo, .int .i64 (nth n.paths i).snow.hi, .slice (B i) (nth n.paths i).opens.length (C i)] : Array Value)[j]? := fun W9 j h => by
          rw [h.cell (Array.getElem?_eq_some_iff.1 hbx).1]
          simp [World.cell?, hbx]
        clear hNI
        by_cases hnv : nth L (nth n.paths i).frm.toNat = 1073741824
        · rw [hnv] at rF
          gi_wp2_with fail
          have key : relaxL p hi (rounds n p hi but (startAt n frm start) k) (pre ++ [⟨i, hil⟩]) = L := by rw [relaxL_snoc, HLE.out, relaxU, if_neg (fun h => h.1 hnv)]
          refine ⟨KeepsFrom.refl _ _, KB.refl _ _ _, fl1, ?_, ?_, ?_, hB0⟩ <;> rw [key]
          · exact hst1
          · exact HFF.out
          · exact HFT.out
        · gi_wp2_with fail
          refine wpIn_region_ext (fun _ => trivial) rfl (fun h => CallsIn.inRound l (callsIn_wide.2 h)) (by kernel_rfl) (by kernel_rfl) ?_
          have hpW : ∀ d os, Pths (grow (redrawn W d) os) A B C n.paths := fun d os => HN.out.ext ((HX4 _ hst1.kb).trans (ext_regrown W d os))
          have hbd1 := HG.out.2.1 (nth n.paths i).frm.toNat (by omega)
          have hbd2 := HG.out.2.2 (nth n.paths i).frm.toNat (by omega)
          have hbd3 := endOf_bd (hi := hi) HOK.out HPK.out hil
          unfold neverN at hbd2
          repeat (go_big_quiet_step (first | exact Calls.regrown_of (paths_span n p A B C c i _ (hpW _ _) hil HOK.out HPK.out) | exact Calls.regrown_of (HFE.out (spanOf p (nth n.paths i)) _) | exact Calls.regrown_of (paths_arrive n p A B C c i _ _ _ (hpW _ _) hil (by omega) (by omega) hbd2 hbd3.1 (by omega))))
          refine wpQuiet_nil ?_
          rintro W2 hg
          have hxW2 : Ext W W2 := by
            obtain ⟨g, rfl⟩ := hg
            exact ext_regrown W g.d g.os
          clear hg hpW
          have hst2 := hst1.ext_ hinb4 hxW2
          have hWi : Inb w.heap.size [wf.heap.size, wf.heap.size + 1] W := ⟨Nat.le_trans hinb6.low hB0, fun k hk => Nat.lt_of_lt_of_le (hinb6.own k hk) hB0⟩
          have hk2 : KB w.heap.size [wf.heap.size, wf.heap.size + 1] W W2 := KB.of_ext hWi hxW2
          have hf2 : KeepsFrom w6.heap.size W W2 := keepsFrom_ext (KeepsFrom.refl _ _) hxW2
          have z2 := hst2.row.frozen
          obtain ⟨T, hT⟩ : ∃ T, arriveOf (nth n.paths i) (nth L (nth n.paths i).frm.toNat) (endOf hi (spanOf p (nth n.paths i))) = T := ⟨_, rfl⟩
          have hT0 : 0 ≤ T := hT ▸ arriveOf_nonneg hbd1 hbd2 hbd3.1
          rw [hT]
          have HT := Lib.hid hT
          clear hT
          by_cases hlt : T < nth L (nth n.paths i).dst.toNat
          · have hst3 := (hst2.setRow hrw4.1 hrw4.2.1 hb3 (nth n.paths i).dst.toNat T)
            have hk3 := hk2.setCell (p := ⟨rb, (nth n.paths i).dst.toNat, none⟩) (by exact hrw4.1) (by simp only [List.mem_cons, List.not_mem_nil, or_false]; omega) (.int .i64 T)
            have hf3 := keepsFrom_set (p := ⟨rb, (nth n.paths i).dst.toNat, none⟩) (u := .int .i64 T) hf2 hst2.row
            obtain ⟨W3', hW3'⟩ : ∃ W3', W2.setCell ⟨rb, (nth n.paths i).dst.toNat, none⟩ (.int .i64 T) = W3' := ⟨_, rfl⟩
            rw [hW3'] at hst3 hk3 hf3
            have hff3 := hst3.flagFree
            have hfc3 := hst3.flagCell
            have hst4' := hst3.setFlag hb1 hb2 hb3 true
            have hk4 := hk3.setCell (p := ⟨bc, 0, none⟩) hb1 (by simp only [List.mem_cons, List.not_mem_nil, or_false]; omega) (.bool true)
            have hf4 := keepsFrom_set (p := ⟨bc, 0, none⟩) (u := .bool true) hf3 hst3.flag
            have HS4 := Lib.hid hst4'
            have HK4 := Lib.hid hk4
            have HF4 := Lib.hid hf4
            clear hst4' hk4 hf4
            gi_wp2_with fail
            have key : relaxL p hi (rounds n p hi but (startAt n frm start) k) (pre ++ [⟨i, hil⟩]) = L.set (nth n.paths i).dst.toNat T := by rw [relaxL_snoc, HLE.out, relaxU, if_pos ⟨hnv, by rw [HT.out]; exact hlt⟩, HT.out]
            refine ⟨HF4.out, HK4.out, true, ?_, (fun h => (by cases h)), fun _ => ?_, Nat.le_trans hB0 HF4.out.size⟩ <;> rw [key]
            · exact HS4.out
            · have h1 := sumN_set (l := L) (i := (nth n.paths i).dst.toNat) (by omega) T
              have h2 : sumN L ≤ sumN (rounds n p hi but (startAt n frm start) k) := by
                cases fl1 with
                | false => rw [← HFF.out rfl]; exact Nat.le_refl _
                | true => exact Nat.le_of_lt (HFT.out rfl)
              omega
          · gi_wp2_with fail
            have key : relaxL p hi (rounds n p hi but (startAt n frm start) k) (pre ++ [⟨i, hil⟩]) = L := by rw [relaxL_snoc, HLE.out, relaxU, if_neg (fun h => Int.not_lt.2 hlt (by rw [← HT.out]; exact h.2))]
            refine ⟨hf2, hk2, fl1, ?_, ?_, ?_, Nat.le_trans hB0 hf2.size⟩ <;> rw [key]
            · exact hst2
            · exact HFF.out
            · exact HFT.out
      case done =>
        intro D xs W hD hxs hI hmk
        subst hxs
        obtain ⟨fl1, hst1, hfF, hfT, hB0⟩ := hI
        rw [relaxL_round] at hst1 hfF hfT
        have hfc1 := hst1.flagCell
        have hm' : Marks (W.alloc (.cells #[.bool fl1] 4)) ({ target := .collected D, args := #[] } :: ds) :=
          marks_kept (w := W) ⟨⟨D, rfl, hmk, fun e he h => by have := hmb e he D h; omega⟩, hst1.marks⟩ fun E hE _ => (((Ext.refl W).alloc (.cells #[.bool fl1] 4)).block _ (Array.getElem?_eq_some_iff.1 hE).1).trans hE
        have hmf' : MarksFrom w.heap.size ({ target := .collected D, args := #[] } :: ds) := fun d hd E hE => by
          rcases List.mem_cons.1 hd with rfl | hd
          · cases hE
            exact Nat.le_trans hxw6.size hD
          · exact hmf d hd E hE
        have hst' : ArrSt w.heap.size rb W.heap.size [w.heap.size, w.heap.size + 1, w2.heap.size] W4 ({ target := .collected D, args := #[] } :: ds) (rounds n p hi but (startAt n frm start) (k + 1)) fl1 (W.alloc (.cells #[.bool fl1] 4)) :=
          ⟨hst1.row.ext ((Ext.refl W).alloc _), heap_alloc_new _ _, hst1.kb.ext_ hinb4 ((Ext.refl W).alloc _), hm'⟩
        have HM' := Lib.hid hm'
        have HMF := Lib.hid hmf'
        have HS' := Lib.hid hst'
        have HFF := Lib.hid hfF
        have HFT := Lib.hid hfT
        clear hm' hmf' hst' hfF hfT
        gi_wp2_with fail
        refine ⟨⟨_, _, _, _, _, _, _, ⟨W.heap.size, k + 1, fl1, rfl, HS'.out, by omega, by simp only [List.mem_cons, List.not_mem_nil, or_false]; omega, by omega, fun h => congrArg _ (HFF.out h), HMF.out⟩, rfl⟩, ?_⟩
        show 2 * sumN (rowOf _ rb) + flagOf _ (.pointer (some ⟨W.heap.size, 0, none⟩)) < 2 * sumN (rowOf wo rb) + flagOf wo (.pointer (some ⟨bc, 0, none⟩))
        rw [rowOf_row HS'.out.row, rowOf_row hst.row, flagOf_cell HS'.out.flagCell, flagOf_cell hst.flagCell]
        cases fl1 with
        | false =>
          have h1 : rounds n p hi but (startAt n frm start) (k + 1) = rounds n p hi but (startAt n frm start) k := HFF.out rfl
          rw [h1]
          simp
        | true =>
          have h1 : sumN (rounds n p hi but (startAt n frm start) (k + 1)) < sumN (rounds n p hi but (startAt n frm start) k) := HFT.out rfl
          simp
          omega
      case stop =>
        rintro D c pre W _ _ h _
        exact h.elim
end Go.Proofs.Ytnjlpkdpmbpblaa
namespace Go.Proofs.Ytnjlpkdpmbpblaa
open Go.RowKit Go.Shelf Go.Sort
attribute [local go_sem] Oper.semAt_some

def told1 (x : Int) : Int := if x = neverN then -1 else x
def toldTo (l : List Int) : Nat → List Int
  | 0 => l
  | k + 1 => if nth l k = neverN then (toldTo l k).set k (-1) else toldTo l k
theorem toldTo_yes {l : List Int} {k : Nat} (h : nth l k = 1073741824) : toldTo l (k + 1) = (toldTo l k).set k (-1) := if_pos h
theorem toldTo_no {l : List Int} {k : Nat} (h : ¬ nth l k = 1073741824) : toldTo l (k + 1) = toldTo l k := if_neg h
theorem toldTo_length (l : List Int) : ∀ k, (toldTo l k).length = l.length
  | 0 => rfl
  | k + 1 => by rw [toldTo]; split <;> simp [toldTo_length l k]
theorem nth_toldTo (l : List Int) (j : Nat) : ∀ k, k ≤ l.length → nth (toldTo l k) j = if j < k then told1 (nth l j) else nth l j
  | 0, _ => by simp [toldTo]
  | k + 1, hk => by
    have ih := nth_toldTo l j k (by omega)
    have hl := toldTo_length l k
    rw [toldTo]
    split
    · rename_i h
      rw [nth_set (by omega), ih]
      by_cases e : k = j
      · subst e; simp [told1, h]
      · rw [if_neg e]
        by_cases h1 : j < k
        · rw [if_pos h1, if_pos (by omega)]
        · rw [if_neg h1, if_neg (by omega)]
    · rename_i h
      rw [ih]
      by_cases e : k = j
      · subst e; simp [told1, h]
      · by_cases h1 : j < k
        · rw [if_pos h1, if_pos (by omega)]
        · rw [if_neg h1, if_neg (by omega)]
/-- the row that told leaves -/
def toldL (l : List Int) : List Int := toldTo l l.length
theorem toldL_length (l : List Int) : (toldL l).length = l.length := toldTo_length l _
theorem nth_toldL {l : List Int} {j : Nat} (h : j < l.length) : nth (toldL l) j = told1 (nth l j) := by rw [toldL, nth_toldTo l j _ (Nat.le_refl _), if_pos h]

/-- only the cells of block b have turned -/
structure OnlyB (b : Nat) (w W : World) : Prop where
  os : W.os = w.os
  tape : W.tape = w.tape
  output : W.output = w.output
  size : w.heap.size ≤ W.heap.size
  block : ∀ k, k ≠ b → k < w.heap.size → W.heap[k]? = w.heap[k]?
theorem OnlyB.refl (b : Nat) (w : World) : OnlyB b w w := ⟨rfl, rfl, rfl, Nat.le_refl _, fun _ _ _ => rfl⟩
theorem OnlyB.setCell {b i : Nat} {w W : World} (h : OnlyB b w W) (u : Value) : OnlyB b w (W.setCell ⟨b, i, none⟩ u) :=
  ⟨h.os, h.tape, h.output, by simpa [World.setCell] using h.size, fun k hk hl => (heap_set_other (p := ⟨b, i, none⟩) hk).trans (h.block k hk hl)⟩
theorem OnlyB.ext {a w W : World} {b : Nat} (h : Ext a w) (k : OnlyB b w W) (hb : a.heap.size ≤ b) : Ext a W :=
  ⟨k.os.trans h.os, k.tape.trans h.tape, k.output.trans h.output, Nat.le_trans h.size k.size, fun i hi => (k.block i (by omega) (Nat.lt_of_lt_of_le hi h.size)).trans (h.block i hi)⟩
theorem OnlyB.row {w W : World} {b c : Nat} {l : List Int} (k : OnlyB b w W) (hc : c ≠ b) (h : Row w c l) : Row W c l := (k.block c hc h.lt).trans h

set_option maxHeartbeats 1000000 in
theorem paths_told (l : List Int) (b : Nat) (w : World) (hl : l.length ≤ 1000) (hr : Row w b l) :
    Calls Try.prog 28 #[.slice (some ⟨b, 0, none⟩) l.length l.length] w fun e w' => e = .returned (.slice (some ⟨b, 0, none⟩) l.length l.length) ∧ Row w' b (toldL l) ∧ OnlyB b w w' := by
  have HR := Lib.hid hr
  clear hr
  go_enter Try.func28, Try.ntmps28
  go_wp2
  go_loopw [7] (fun v wr => ∃ k : Nat, k ≤ l.length ∧ v = .int .i64 k ∧ Row wr b (toldTo l k) ∧ OnlyB b w wr) (fun v _ => l.length - (intOf v).toNat)
  case atStart => exact ⟨0, by omega, rfl, HR.out, OnlyB.refl _ _⟩
  case round =>
    obtain ⟨k, hk, rfl, hrow, hob⟩ := hrel
    have hz := hrow.frozen
    by_cases hlt : k < l.length
    · have hc := hrow.cell (i := k) (by rw [toldTo_length]; exact hlt)
      rw [nth_toldTo l k k (by omega), if_neg (by omega)] at hc
      by_cases hn : nth l k = 1073741824
      · have hrow' := hrow.set k (-1)
        have HS := Lib.hid (toldTo_yes hn)
        have HROW := Lib.hid hrow'
        clear hrow'
        go_wp2
        refine ⟨⟨k + 1, by omega, by go_num, ?_, hob.setCell _⟩, by simp [intOf]; omega⟩
        rw [HS.out]
        exact HROW.out
      · have HS := Lib.hid (toldTo_no hn)
        go_wp2
        refine ⟨⟨k + 1, by omega, by go_num, ?_, hob⟩, by simp [intOf]; omega⟩
        rw [HS.out]
        exact hrow
    · obtain rfl : k = l.length := by omega
      go_wp2
      go_ret
      exact ⟨rfl, hrow, hob⟩
end Go.Proofs.Ytnjlpkdpmbpblaa
namespace Go.Proofs.Ytnjlpkdpmbpblaa
open Go.RowKit Go.Shelf Go.Sort
attribute [local go_sem] Oper.semAt_some
set_option maxRecDepth 100000 in
set_option maxHeartbeats 600000 in
theorem paths_Arrive (n : Nt) (p : Pty) (frm start : Int) (A : Option Addr) (B : Nat → Option Addr) (C : Nat → Nat) (c : Nat) (w : World) (hn : Pths w A B C n.paths) (hok : netOk n = true) (hpk : partyOk p = true)
    (hf : 0 ≤ frm ∧ frm ≤ n.places - 1) (hs : 0 ≤ start ∧ start ≤ 2880) :
    Calls Try.prog 8 #[vNt n A c, vPty p, .int .i64 frm, .int .i64 start] w fun e w' => ∃ b1 b2 l1 l2, e = .returned (.tuple #[.slice (some ⟨b1, 0, none⟩) l1.length l1.length, .slice (some ⟨b2, 0, none⟩) l2.length l2.length, .int .i64 0]) ∧
      Row w' b1 (toldL l1) ∧ Row w' b2 (toldL l2) ∧ Arr n p true (-1) frm start l1 ∧ Arr n p false (-1) frm start l2 ∧ Ext w w' ∧ b1 ≠ b2 ∧ w.heap.size ≤ b1 ∧ w.heap.size ≤ b2 := by
  dsimp only [vNt, vPty]
  have herr : askErr n p [frm] [start] = 0 := by simp [askErr, npErr, hok, hpk, within, hf, hs]
  have HN := Lib.hid hn
  have HOK := Lib.hid hok
  have HPK := Lib.hid hpk
  clear hn hok hpk
  obtain ⟨W1, hW1⟩ : ∃ W1, (((w.alloc (.cells #[.int .i64 n.places, .slice A n.paths.length c] 24)).alloc (.cells #[.int .i64 p.grade, .int .i64 p.load, .int .i64 p.pace.lo, .int .i64 p.pace.hi] 28)).alloc (.cells #[.int .i64 frm] 3)).alloc (.cells #[.int .i64 start] 3) = W1 := ⟨_, rfl⟩
  have hx1 : Ext w W1 := hW1 ▸ ((((Ext.refl w).alloc _).alloc _).alloc _).alloc _
  have i1 : Ints W1 (some ⟨w.heap.size + 1 + 1, 0, none⟩) [frm] := by
    refine Row.ints (b := w.heap.size + 1 + 1) ?_
    rw [← hW1]
    refine Row.ext ?_ ((Ext.refl _).alloc _)
    unfold Row
    rw [heap_alloc_new' (by simp)]
    rfl
  have i2 : Ints W1 (some ⟨w.heap.size + 1 + 1 + 1, 0, none⟩) [start] := by
    refine Row.ints (b := w.heap.size + 1 + 1 + 1) ?_
    rw [← hW1]
    unfold Row
    rw [heap_alloc_new' (by simp)]
    rfl
  have I1 := Lib.hid i1
  have I2 := Lib.hid i2
  clear i1 i2
  have hop := paths_open n p A B C c _ _ 1 1 [frm] [start] W1 (HN.out.ext hx1) I1.out I2.out (by simp) (by simp)
  rw [herr] at hop
  have HOP := Lib.hid hop
  clear hop herr
  go_enter Try.func8, Try.ntmps8
  go_wp2_with fail
  refine HOP.out.mono ?_
  rintro e w2 ⟨rfl, hx2⟩
  have hx02 : Ext w w2 := hx1.trans hx2
  dsimp only [vWalk]
  obtain ⟨W3, hW3⟩ : ∃ W3, w2.alloc (.cells #[.int .i64 n.places, .slice A n.paths.length c, .int .i64 p.grade, .int .i64 p.load, .int .i64 p.pace.lo, .int .i64 p.pace.hi] 74) = W3 := ⟨_, rfl⟩
  have hx3 : Ext w2 W3 := hW3 ▸ (Ext.refl w2).alloc _
  have b : ∀ W9 j, Ext W3 W9 → W9.cell? ⟨w2.heap.size, j, none⟩ = (#[.int .i64 n.places, .slice A n.paths.length c, .int .i64 p.grade, .int .i64 p.load, .int .i64 p.pace.lo, .int .i64 p.pace.hi] : Array Value)[j]? := fun W9 j h => by rw [h.cell (by rw [← hW3]; simp only [World.size_alloc]; omega), ← hW3]; simp [go_sem]
  go_wp2_with fail
  have c1 : ∀ W, Ext W3 W → Calls Try.prog 29 #[.agg #[.int .i64 n.places, .slice A n.paths.length c, .int .i64 p.grade, .int .i64 p.load, .int .i64 p.pace.lo, .int .i64 p.pace.hi], .int .i64 frm, .int .i64 start, .int .i64 (-1), .func (.func 30) #[] #[]] W fun e w' => ∃ b l, e = .returned (.slice (some ⟨b, 0, none⟩) l.length l.length) ∧ W.heap.size ≤ b ∧ Row w' b l ∧ Arr n p true (-1) frm start l ∧ Ext W w' :=
    fun W h => paths_arrivals n p true (-1) frm start A B C c 30 W (HN.out.ext ((hx02.trans hx3).trans h)) HOK.out HPK.out hf hs (enters_of Try.func30 (by kernel_rfl) rfl) paths_high
  have c2 : ∀ W, Ext W3 W → Calls Try.prog 29 #[.agg #[.int .i64 n.places, .slice A n.paths.length c, .int .i64 p.grade, .int .i64 p.load, .int .i64 p.pace.lo, .int .i64 p.pace.hi], .int .i64 frm, .int .i64 start, .int .i64 (-1), .func (.func 31) #[] #[]] W fun e w' => ∃ b l, e = .returned (.slice (some ⟨b, 0, none⟩) l.length l.length) ∧ W.heap.size ≤ b ∧ Row w' b l ∧ Arr n p false (-1) frm start l ∧ Ext W w' :=
    fun W h => paths_arrivals n p false (-1) frm start A B C c 31 W (HN.out.ext ((hx02.trans hx3).trans h)) HOK.out HPK.out hf hs (enters_of Try.func31 (by kernel_rfl) rfl) paths_low
  have C1 := Lib.hid c1
  have C2 := Lib.hid c2
  clear c1 c2
  have HL : ∀ l : List Int, l.length = n.places.toNat → l.length ≤ 1000 := by
    have h12 := (netOk_iff.1 HOK.out).1.2
    intro l hl
    omega
  have hx33 : Ext W3 W3.drew := (Ext.refl _).drew
  go_region_held3 (fun w' => Ext W3 w') (first | exact (Ext.refl _).drew | assumption | exact Ext.trans (by assumption) (by assumption))
    (first
      | (go_at_call 29; refine (C1.out _ (by assumption)).mono ?_; clear C1; rintro e w4 ⟨b1, l1, rfl, hb1, hr1, ha1, hx4⟩; have hx34 : Ext W3 w4 := Ext.trans (by assumption) hx4)
      | (go_at_call 29; refine (C2.out _ (by assumption)).mono ?_; clear C2; rintro e w6 ⟨b2, l2, rfl, hb2, hr2, ha2, hx6⟩; have hx36 : Ext W3 w6 := Ext.trans (by assumption) hx6)
      | (go_at_call 28; refine (paths_told l1 b1 _ (HL _ ha1.length) hr1).mono ?_; rintro e w5 ⟨rfl, ht1, ho1⟩; have hx35 : Ext W3 w5 := OnlyB.ext (by assumption) ho1 (Nat.le_trans (Ext.size (a := W3) (by assumption)) hb1); clear hr1)
      | (go_at_call 28; refine (paths_told l2 b2 _ (HL _ ha2.length) hr2).mono ?_; rintro e w7 ⟨rfl, ht2, ho2⟩; have hx37 : Ext W3 w7 := OnlyB.ext (by assumption) ho2 (Nat.le_trans (Ext.size (a := W3) (by assumption)) hb2); clear hr2))
  have hne : b1 ≠ b2 := Nat.ne_of_lt (Nat.lt_of_lt_of_le ht1.lt hb2)
  have h3s : w.heap.size ≤ W3.heap.size := (hx02.trans hx3).size
  have hB1 : w.heap.size ≤ b1 := Nat.le_trans h3s (Nat.le_trans (Ext.size (a := W3) (by first | exact (Ext.refl _).drew | assumption)) hb1)
  have hB2 : w.heap.size ≤ b2 := Nat.le_trans h3s (Nat.le_trans (Ext.size (a := W3) (by first | exact (Ext.refl _).drew | assumption)) hb2)
  go_wp2
  go_ret3
  exact ⟨b1, b2, l1, l2, rfl, ho2.row hne (ht1.ext hx6), ht2, ha1, ha2, (hx02.trans hx3).trans hx37, hne, hB1, hB2⟩
end Go.Proofs.Ytnjlpkdpmbpblaa
namespace Go.Proofs.Ytnjlpkdpmbpblaa
open Go.RowKit Go.Shelf Go.Sort
attribute [local go_sem] Oper.semAt_some

def lastOf (n : Nt) (p : Pty) (l : List Int) (i : Nat) : Int := latestOf (nth n.paths i) (nth l (nth n.paths i).dst.toNat - (spanOf p (nth n.paths i)).hi)
def dRelax (n : Nt) (p : Pty) (l : List Int) (i : Nat) : List Int :=
  if nth l (nth n.paths i).frm.toNat < lastOf n p l i then l.set (nth n.paths i).frm.toNat (lastOf n p l i) else l
def dRelaxL {n : Nt} (p : Pty) (l : List Int) (pre : List (Pix n)) : List Int := pre.foldl (fun m x => dRelax n p m x.1) l
theorem dRelaxL_snoc {n : Nt} (p : Pty) (l : List Int) (pre : List (Pix n)) (x : Pix n) : dRelaxL p l (pre ++ [x]) = dRelax n p (dRelaxL p l pre) x.1 := by simp [dRelaxL]
def dRound (n : Nt) (p : Pty) (l : List Int) : List Int := dRelaxL p l (waysTo n p (-1) n.paths.length)
def dRounds (n : Nt) (p : Pty) (l : List Int) : Nat → List Int
  | 0 => l
  | k + 1 => dRound n p (dRounds n p l k)
def dStart (n : Nt) (to by_ : Int) : List Int := (List.replicate n.places.toNat (-1)).set to.toNat by_
/-- what deadlines returns -/
def Dead (n : Nt) (p : Pty) (to by_ : Int) (l : List Int) : Prop := (∃ k, l = dRounds n p (dStart n to by_) k) ∧ dRound n p l = l
/-- a row of deadlines that is in order -/
def Good2 (n : Nt) (l : List Int) : Prop := l.length = n.places.toNat ∧ ∀ j, j < l.length → -1 ≤ nth l j ∧ nth l j ≤ 2880
theorem latest_bd (l : List Spn) (b : Int) (hb : b ≤ 2880) : ∀ e : Int, -1 ≤ e → e ≤ 2880 → -1 ≤ l.foldl (latestStep b) e ∧ l.foldl (latestStep b) e ≤ 2880 := by
  induction l with
  | nil => exact fun e h1 h2 => ⟨h1, h2⟩
  | cons s l ih =>
    intro e h1 h2
    rw [List.foldl_cons]
    apply ih <;> unfold latestStep <;> split <;> omega
section
variable {n : Nt} {p : Pty}
theorem lastOf_bd (hok : netOk n = true) (hpk : partyOk p = true) {l : List Int} (h : Good2 n l) {i : Nat} (hi : i < n.paths.length) : -1 ≤ lastOf n p l i ∧ lastOf n p l i ≤ 2880 := by
  have hd := h.2 (nth n.paths i).dst.toNat (by rw [h.1]; exact inDst_of_ok hok i hi)
  have hs := spanOf_bd hok hpk hi
  exact latest_bd _ _ (by omega) _ (by omega) (by omega)
theorem good2_relax (hok : netOk n = true) (hpk : partyOk p = true) {l : List Int} (h : Good2 n l) {i : Nat} (hi : i < n.paths.length) : Good2 n (dRelax n p l i) := by
  have hb := lastOf_bd hok hpk h hi
  have hf : (nth n.paths i).frm.toNat < l.length := by rw [h.1]; exact frm_of_ok hok hi
  unfold dRelax
  split
  · refine ⟨by simpa using h.1, fun j hj => ?_⟩
    rw [nth_set hf]
    split
    · exact hb
    · exact h.2 j (by simpa using hj)
  · exact h
theorem good2_relaxL (hok : netOk n = true) (hpk : partyOk p = true) (pre : List (Pix n)) : ∀ {l : List Int}, Good2 n l → Good2 n (dRelaxL p l pre) := by
  induction pre with
  | nil => exact fun h => h
  | cons x pre ih => exact fun h => ih (good2_relax hok hpk h x.2)
theorem good2_rounds (hok : netOk n = true) (hpk : partyOk p = true) {l : List Int} (h : Good2 n l) : ∀ k, Good2 n (dRounds n p l k)
  | 0 => h
  | k + 1 => good2_relaxL hok hpk _ (good2_rounds hok hpk h k)
theorem good2_start {to by_ : Int} (hf : to.toNat < n.places.toNat) (hs : 0 ≤ by_ ∧ by_ ≤ 2880) : Good2 n (dStart n to by_) := by
  refine ⟨by simp [dStart], fun j hj => ?_⟩
  have hj' : j < n.places.toNat := by simpa [dStart] using hj
  unfold dStart
  rw [nth_set (by simpa using hf)]
  split
  · omega
  · rw [nth_replicate _ _ _ hj']; omega
end
/-- what is left to 2880 -/
def sumD (l : List Int) : Nat := sumN (l.map fun x => 2880 - x)
theorem sumD_set {l : List Int} {i : Nat} (h : i < l.length) (x : Int) : sumD (l.set i x) + (2880 - nth l i).toNat = sumD l + (2880 - x).toNat := by
  have h1 := sumN_set (l := l.map fun x => 2880 - x) (i := i) (by simpa using h) (2880 - x)
  have h2 : nth (l.map fun x => 2880 - x) i = 2880 - nth l i := by rw [nth_eq (by simpa using h), nth_eq h]; simp
  rw [h2] at h1
  unfold sumD
  rw [List.map_set]
  exact h1
def DeadRel (n : Nt) (p : Pty) (to by_ : Int) (n0 rb : Nat) (K : List Nat) (W4 : World) (u8 : Value) (ds : List Deferred) (W : World) : Prop :=
  ∃ (bc k : Nat) (fl : Bool), u8 = .pointer (some ⟨bc, 0, none⟩) ∧ ArrSt n0 rb bc K W4 ds (dRounds n p (dStart n to by_) k) fl W ∧ n0 ≤ bc ∧ bc ∉ K ∧ rb ≠ bc ∧
    (fl = false → dRound n p (dRounds n p (dStart n to by_) k) = dRounds n p (dStart n to by_) k) ∧ MarksFrom n0 ds
def DngI {n : Nt} (p : Pty) (n0 rb bc B0 : Nat) (K : List Nat) (W4 : World) (ds : List Deferred) (L : List Int) (pre : List (Pix n)) (W : World) : Prop :=
  ∃ fl, ArrSt n0 rb bc K W4 ds (dRelaxL p L pre) fl W ∧ (fl = false → dRelaxL p L pre = L) ∧ (fl = true → sumD (dRelaxL p L pre) < sumD L) ∧ B0 ≤ W.heap.size
theorem DngI.own {n : Nt} {p : Pty} {n0 rb bc B0 : Nat} {K : List Nat} {W4 : World} {ds : List Deferred} {L : List Int} (hn : n0 ≤ B0) (hK : ∀ k ∈ K, k < B0) (hd : MarksBelow B0 ds) :
    OwnFrom B0 (fun (pre : List (Pix n)) W => DngI p n0 rb bc B0 K W4 ds L pre W) := by
  rintro s W W' row ⟨fl, h1, h2, h3, h4⟩ hg hr
  exact ⟨fl, h1.shut (shut_of_grown hg h4 hr) hn hK hd, h2, h3, Nat.le_trans h4 hg.size⟩
theorem DngI.ext_ {n : Nt} {p : Pty} {n0 rb bc B0 : Nat} {K : List Nat} {W4 W W' : World} {ds : List Deferred} {L : List Int} {pre : List (Pix n)} (h : DngI p n0 rb bc B0 K W4 ds L pre W) (hi4 : Inb n0 K W4) (e : Ext W W') :
    DngI p n0 rb bc B0 K W4 ds L pre W' := by
  obtain ⟨fl, h1, h2, h3, h4⟩ := h
  exact ⟨fl, h1.ext_ hi4 e, h2, h3, Nat.le_trans h4 e.size⟩

set_option maxRecDepth 100000 in
set_option maxHeartbeats 2000000 in
theorem paths_deadlines (n : Nt) (p : Pty) (to by_ : Int) (A : Option Addr) (B : Nat → Option Addr) (C : Nat → Nat) (c : Nat) (w : World) (hn : Pths w A B C n.paths) (hok : netOk n = true) (hpk : partyOk p = true)
    (hf : 0 ≤ to ∧ to ≤ n.places - 1) (hs : 0 ≤ by_ ∧ by_ ≤ 2880) :
    Calls Try.prog 58 #[vWalk n p A c, .int .i64 to, .int .i64 by_] w fun e w' => ∃ b l, e = .returned (.slice (some ⟨b, 0, none⟩) l.length l.length) ∧ w.heap.size ≤ b ∧ Row w' b l ∧ Dead n p to by_ l ∧ Ext w w' := by
  refine (callsIn_wide (n := 6)).1 ?_
  dsimp only [vWalk]
  obtain ⟨⟨np1, np2⟩, nlen, hall⟩ := netOk_iff.1 hok
  obtain ⟨f1, f2⟩ := hf
  obtain ⟨s1, s2⟩ := hs
  have HALL := Lib.hid hall
  have HN := Lib.hid hn
  have HOK := Lib.hid hok
  have HPK := Lib.hid hpk
  clear hall hn hok hpk
  obtain ⟨W1, hW1⟩ : ∃ W1, ((w.alloc (.cells #[.int .i64 n.places, .slice A n.paths.length c, .int .i64 p.grade, .int .i64 p.load, .int .i64 p.pace.lo, .int .i64 p.pace.hi] 74)).alloc (.cells #[.int .i64 (-1)] 3)) = W1 := ⟨_, rfl⟩
  have hx1 : Ext w W1 := hW1 ▸ ((Ext.refl w).alloc _).alloc _
  have b : ∀ W9 j, Ext W1 W9 → W9.cell? ⟨w.heap.size, j, none⟩ = (#[.int .i64 n.places, .slice A n.paths.length c, .int .i64 p.grade, .int .i64 p.load, .int .i64 p.pace.lo, .int .i64 p.pace.hi] : Array Value)[j]? := fun W9 j h => by rw [h.cell (by rw [← hW1]; simp only [World.size_alloc]; omega), ← hW1]; simp [go_sem]
  have i1 : Ints W1 (some ⟨w.heap.size + 1, 0, none⟩) [-1] := by
    refine Row.ints (b := w.heap.size + 1) ?_
    rw [← hW1]
    unfold Row
    rw [heap_alloc_new' (by simp)]
    rfl
  have I1 := Lib.hid i1
  have hsz1 : w.heap.size + 1 < W1.heap.size := by rw [← hW1]; simp
  clear i1
  refine callsIn_of_wp_marks Try.func58 rfl trivial ?_ rfl
  simp only [Try.ntmps58, List.size_toArray, List.length_cons, List.length_nil, Nat.reduceAdd, Nat.reduceSub, Array.replicate_succ, Array.replicate_zero, List.push_toArray, List.append_toArray, List.nil_append, List.cons_append]
  gi_wp2_with fail
  refine ⟨trivial, ?_⟩
  refine (callsIn_wide.2 (slices_RepeatI _ 1 (-1) n.places W1 I1.out np1 (by omega))).mono ?_
  rintro e w2 ⟨rb, rfl, hrb, hrow, hx2⟩
  have hx02 : Ext w w2 := hx1.trans hx2
  have hrw : rb < w2.heap.size := hrow.lt
  obtain ⟨N, hN⟩ : ∃ N, N = n.places.toNat := ⟨_, rfl⟩
  rw [← hN] at hrow ⊢
  have hfN : to.toNat < N := by omega
  have hfI : to < (N : Int) := by omega
  have HNN := Lib.hid hN
  have hfP : to.toNat < n.places.toNat := by omega
  clear hN
  obtain ⟨W3, hW3⟩ : ∃ W3, w2.alloc (.cells #[.slice (some ⟨rb, 0, none⟩) N N] 29) = W3 := ⟨_, rfl⟩
  have hx3 : Ext w2 W3 := hW3 ▸ (Ext.refl w2).alloc _
  have q3 : ∀ W9 j, Ext W3 W9 → W9.cell? ⟨w2.heap.size, j, none⟩ = (#[.slice (some ⟨rb, 0, none⟩) N N] : Array Value)[j]? := fun W9 j h => by rw [h.cell (by rw [← hW3]; simp only [World.size_alloc]; omega), ← hW3]; simp [go_sem]
  have r3 : Row W3 rb (List.replicate N (-1)) := hrow.ext hx3
  have c3 : W3.cell? ⟨rb, to.toNat, none⟩ = some (.int .i64 (nth (List.replicate N (-1)) to.toNat)) := r3.cell (by simpa using hfN)
  have z3 : W3.frozen? ⟨rb, to.toNat, none⟩ = false := r3.frozen _
  obtain ⟨W4, hW4⟩ : ∃ W4, (W3.setCell ⟨rb, to.toNat, none⟩ (.int .i64 by_)).alloc (.cells #[.bool true] 4) = W4 := ⟨_, rfl⟩
  have hr4 : Row W4 rb (dStart n to by_) := by
    have h := (r3.set to.toNat by_).ext ((Ext.refl (W3.setCell ⟨rb, to.toNat, none⟩ (.int .i64 by_))).alloc (.cells #[.bool true] 4))
    rw [hW4] at h
    unfold dStart
    rw [← HNN.out]
    exact h
  have hs23 : w2.heap.size < W3.heap.size := by rw [← hW3]; simp
  have hsw2 : w.heap.size + 1 < w2.heap.size := Nat.lt_of_lt_of_le hsz1 hx2.size
  have hs34 : W3.heap.size < W4.heap.size := by rw [← hW4]; simp [World.setCell]
  have hst4 : ArrSt w.heap.size rb W3.heap.size [w.heap.size, w2.heap.size] W4 [] (dStart n to by_) true W4 :=
    ⟨hr4, by rw [← hW4]; exact heap_alloc_new' (by simp [World.setCell]), KB.refl _ _ _, trivial⟩
  have hx24 : KB w.heap.size [w.heap.size] W1 W4 := by
    have h0 : Inb w.heap.size [w.heap.size] W1 := ⟨by omega, by simp; omega⟩
    have h1 := (KB.of_ext h0 (hx2.trans hx3)).setCell (p := ⟨rb, to.toNat, none⟩) (by simp; omega) (by simp; omega) (.int .i64 by_)
    have h2 := h1.alloc h0 (.cells #[.bool true] 4)
    rwa [hW4] at h2
  have hinb4 : Inb w.heap.size [w.heap.size, w2.heap.size] W4 := ⟨by omega, by simp; omega⟩
  have B4 : ∀ W' j, KB w.heap.size [w.heap.size, w2.heap.size] W4 W' → W'.cell? ⟨w.heap.size, j, none⟩ = (#[.int .i64 n.places, .slice A n.paths.length c, .int .i64 p.grade, .int .i64 p.load, .int .i64 p.pace.lo, .int .i64 p.pace.hi] : Array Value)[j]? := fun W' j h => by
    rw [h.cell (.inr (by simp)), hx24.cell (.inr (by simp))]
    exact b W1 j (Ext.refl _)
  have Q4 : ∀ W', KB w.heap.size [w.heap.size, w2.heap.size] W4 W' → W'.cell? ⟨w2.heap.size, 0, none⟩ = some (.slice (some ⟨rb, 0, none⟩) N N) := fun W' h => by
    rw [h.cell (.inr (by simp)), ← hW4, World.cell?_alloc_lt _ _ _ (by simp [World.setCell]; omega), World.cell?_setCell_other _ _ _ _ (by intro e; injection e with e; omega), q3 W3 0 (Ext.refl _)]
    rfl
  have hx04 : Ext w W4 := by
    have h := ((hx02.trans hx3).setCell (p := ⟨rb, to.toNat, none⟩) (by simp; omega) (.int .i64 by_)).alloc (.cells #[.bool true] 4)
    rwa [hW4] at h
  have HX4 : ∀ W', KB w.heap.size [w.heap.size, w2.heap.size] W4 W' → Ext w W' := fun W' h => Below.trans hx04 h.below
  have hrw4 : w.heap.size ≤ rb ∧ rb ∉ [w.heap.size, w2.heap.size] ∧ rb ≠ W3.heap.size := ⟨by omega, by simp; omega, by omega⟩
  have hbc4 : w.heap.size ≤ W3.heap.size ∧ W3.heap.size ∉ [w.heap.size, w2.heap.size] := ⟨by omega, by simp; omega⟩
  gi_wp2_with fail
  refine wpIn_loop (fun a W => ∃ (u8 u21 u22 u23 u46 : Value) (ds : List Deferred), DeadRel n p to by_ w.heap.size rb [w.heap.size, w2.heap.size] W4 u8 ds W ∧ a = ⟨#[.agg #[.int .i64 n.places, .slice A n.paths.length c, .int .i64 p.grade, .int .i64 p.load, .int .i64 p.pace.lo, .int .i64 p.pace.hi], .int .i64 to, .int .i64 by_, .pointer (some ⟨w.heap.size, 0, none⟩), undef, undef, .slice none 0 0, .pointer (some ⟨w2.heap.size, 0, none⟩), u8, undef, undef, undef, .slice (some ⟨w.heap.size + 1, 0, none⟩) 1 1, .pointer (some ⟨w.heap.size, 0, none⟩), .pointer (some ⟨w.heap.size, 0, none⟩), .int .i64 n.places, .slice (some ⟨rb, 0, none⟩) N N, .slice (some ⟨rb, 0, none⟩) N N, .int .i64 to, .int .i64 by_, .pointer (some ⟨rb, to.toNat, none⟩), u21, u22, u23, undef, undef, undef, undef, undef, undef, undef, undef, undef, undef, undef, undef, undef, undef, undef, undef, undef, undef, undef, undef, undef, undef, u46, undef], ds⟩) (fun a W => 2 * sumD (rowOf W rb) + flagOf W (a.tmps.getD 8 undef)) ?_ ?_
  · exact ⟨_, _, _, _, _, [], ⟨W3.heap.size, 0, true, rfl, hst4, hbc4.1, hbc4.2, hrw4.2.2, by simp, by simp [MarksFrom]⟩, rfl⟩
  · rintro a wo ⟨u8, u21, u22, u23, u46, ds, ⟨bc, k, fl, rfl, hst, hb1, hb2, hb3, hfl, hmf⟩, rfl⟩
    have hfc := hst.flagCell
    have hkb := hst.kb
    have HFL := Lib.hid hfl
    clear hfl
    cases fl with
    | false =>
      have hfx := HFL.out rfl
      have HFX := Lib.hid hfx
      clear hfx HFL
      gi_wp2_with fail
      have hlen : (dRounds n p (dStart n to by_) k).length = N := by rw [(good2_rounds HOK.out HPK.out (good2_start hfP ⟨s1, s2⟩) k).1, ← HNN.out]
      refine leaves_marks (n0 := w.heap.size) (v := .slice (some ⟨rb, 0, none⟩) N N) ds _ hst.marks hmf (fun W hsh => ⟨by rw [results_tmp (t := 6) rfl]; rfl, rb, dRounds n p (dStart n to by_) k, ?_, hrw4.1, hsh.cells _ _ hst.row rfl, ⟨⟨k, rfl⟩, HFX.out⟩, ?_⟩)
      · rw [hlen]
      · exact (HX4 _ hkb).trans_shut hsh
    | true =>
      have hff := hst.flagFree
      have hst1 := hst.setFlag hb1 hb2 hb3 false
      have hw := fun W => paths_ways n p A c (-1) W
      have HW := Lib.hid hw
      clear hw
      obtain ⟨wf, hwf⟩ : ∃ wf, wo.setCell ⟨bc, 0, none⟩ (.bool false) = wf := ⟨_, rfl⟩
      rw [hwf] at hst1
      have hkf := hst1.kb
      have hbcf : bc < wf.heap.size := (Array.getElem?_eq_some_iff.1 hst1.flag).1
      gi_wp2_with fail
      refine ⟨trivial, ?_⟩
      refine (callsIn_wide.2 (HW.out _)).mono ?_
      rintro e w6 ⟨rfl, hw6⟩
      have hx6 : Ext wf w6 := hw6 ▸ ((Ext.refl wf).alloc _).alloc _
      have hst6 := hst1.ext_ hinb4 hx6
      have hsz6 : wf.heap.size + 1 < w6.heap.size := by rw [← hw6]; simp
      have y : ∀ W9 j, Ext w6 W9 → W9.cell? ⟨wf.heap.size, j, none⟩ = (#[.int .i64 n.places, .slice A n.paths.length c, .int .i64 p.grade, .int .i64 p.load, .int .i64 p.pace.lo, .int .i64 p.pace.hi] : Array Value)[j]? := fun W9 j h => by rw [h.cell (by rw [← hw6]; simp only [World.size_alloc]; omega), ← hw6]; simp [go_sem]
      have x : ∀ W9 j, Ext w6 W9 → W9.cell? ⟨wf.heap.size + 1, j, none⟩ = (#[.int .i64 (-1)] : Array Value)[j]? := fun W9 j h => by rw [h.cell (by rw [← hw6]; simp only [World.size_alloc]; omega), ← hw6]; simp [go_sem]
      have hxw6 : Ext w w6 := HX4 _ hst6.kb
      have hszf : w2.heap.size < wf.heap.size := Nat.lt_of_lt_of_le (Nat.lt_trans hs23 hs34) hkf.below.size
      have hszw : w2.heap.size + 1 < w6.heap.size := by omega
      have HN6 := HN.out.ext hxw6
      gi_wp2_with fail
      have hmb : MarksBelow w6.heap.size ds := marks_below hst6.marks
      have hinb6 : Inb w.heap.size [wf.heap.size, wf.heap.size + 1] w6 := ⟨hxw6.size, by intro k hk; simp only [List.mem_cons, List.not_mem_nil, or_false] at hk; omega⟩
      have hK6 : ∀ k ∈ [w.heap.size, w2.heap.size], k < w6.heap.size := by intro k hk; simp only [List.mem_cons, List.not_mem_nil, or_false] at hk; omega
      have hput6 : ∀ (W : World) (l : Nat) (o o' : Obj), w6.heap.size ≤ l → W.heap[l]? = some o → o.isCells = false → o.isWalk = false → KB w.heap.size [wf.heap.size, wf.heap.size + 1] W (W.putObj l o') := fun W l o o' hl _ _ _ => (KB.refl _ _ _).putObj (by omega) (by simp only [List.mem_cons, List.not_mem_nil, or_false]; omega) o'
      have hAx6 : ∀ (T : Nat → Act) (x : Pix n) (a' : Act), OwnFrom w6.heap.size (fun (_ : Unit) W => ∃ Bx, W.heap[Bx]? = some (.cells (vPth B C n.paths x.1).cells 34 (0, 0)) ∧ a' = T Bx) :=
        fun T x a' _ W W' row ⟨Bx, h1, h2⟩ hg hr => ⟨Bx, (hg.block Bx (Array.getElem?_eq_some_iff.1 h1).1 (fun e => by obtain ⟨_, o, ho, hc⟩ := hr Bx e.symm; rw [h1] at ho; cases ho; cases hc)).trans h1, h2⟩
      refine wpIn_rangeFunc_ownH rfl (by omega) (gf := 65) (lb := #[.pointer (some ⟨wf.heap.size, 0, none⟩), .pointer (some ⟨wf.heap.size + 1, 0, none⟩)]) rfl trivial (enters_of Try.func65 (by kernel_rfl) rfl)
        (ways_stops n p A B C c (-1) wf.heap.size (wf.heap.size + 1) 4 w w6 HN.out (by omega) hxw6 hinb6 (fun j => y w6 j (Ext.refl _)) (by rw [x w6 0 (Ext.refl _)]; rfl))
        KB.trans hput6 (Below.refl _ _) (fun _ => rfl)
        (DngI p w.heap.size rb bc w6.heap.size [w.heap.size, w2.heap.size] W4 ds (dRounds n p (dStart n to by_) k)) (fun _ _ _ => False)
        (DngI.own hxw6.size hK6 hmb) (fun _ _ _ _ _ h _ _ => h) ⟨false, hst6, fun _ => rfl, by simp, Nat.le_refl _⟩
        (fun x a' W => ∃ Bx, W.heap[Bx]? = some (.cells (vPth B C n.paths x.1).cells 34 (0, 0)) ∧ a' = ⟨#[.agg #[.int .i64 n.places, .slice A n.paths.length c, .int .i64 p.grade, .int .i64 p.load, .int .i64 p.pace.lo, .int .i64 p.pace.hi], .int .i64 to, .int .i64 by_, .pointer (some ⟨w.heap.size, 0, none⟩), undef, undef, .slice none 0 0, .pointer (some ⟨w2.heap.size, 0, none⟩), .pointer (some ⟨bc, 0, none⟩), .int .i64 (x.1 : Int), .pointer (some ⟨Bx, 0, none⟩), undef, .slice (some ⟨w.heap.size + 1, 0, none⟩) 1 1, .pointer (some ⟨w.heap.size, 0, none⟩), .pointer (some ⟨w.heap.size, 0, none⟩), .int .i64 n.places, .slice (some ⟨rb, 0, none⟩) N N, .slice (some ⟨rb, 0, none⟩) N N, .int .i64 to, .int .i64 by_, .pointer (some ⟨rb, to.toNat, none⟩), .bool true, .agg #[.int .i64 n.places, .slice A n.paths.length c, .int .i64 p.grade, .int .i64 p.load, .int .i64 p.pace.lo, .int .i64 p.pace.hi], .func (.func 65) #[] #[.pointer (some ⟨wf.heap.size, 0, none⟩), .pointer (some ⟨wf.heap.size + 1, 0, none⟩)], .int .i64 (x.1 : Int), vPth B C n.paths x.1, undef, undef, undef, undef, undef, undef, undef, undef, undef, undef, undef, undef, undef, undef, undef, undef, undef, undef, undef, undef, u46, undef], []⟩)
        (fun x a' => hAx6 _ x a')
        ?assign ?body ?done ?stop
      case assign =>
        intro l pre x W K hI hK
        have hWs : w6.heap.size ≤ W.heap.size := hI.choose_spec.2.2.2
        have hiW : Inb w.heap.size [wf.heap.size, wf.heap.size + 1] W := ⟨Nat.le_trans hinb6.low hWs, fun k hk => Nat.lt_of_lt_of_le (hinb6.own k hk) hWs⟩
        gi_wp2
        exact hK _ _ (keepsFrom_ext (KeepsFrom.refl _ _) ((Ext.refl W).alloc _)) ((KB.refl _ _ _).alloc hiW _) (hI.ext_ hinb4 ((Ext.refl W).alloc _)) ⟨W.heap.size, heap_alloc_new _ _, rfl⟩
      case body =>
        intro l pre x a' W hl hlr hI hA hpl
        obtain ⟨Bx, hbx, rfl⟩ := hA
        obtain ⟨fl1, hst1, hfF, hfT, hB0⟩ := hI
        have hgood := good2_relaxL HOK.out HPK.out pre (good2_rounds HOK.out HPK.out (good2_start hfP ⟨s1, s2⟩) k)
        generalize hLe : dRelaxL p (dRounds n p (dStart n to by_) k) pre = L at *
        have HLE := Lib.hid hLe
        have HFF := Lib.hid hfF
        have HFT := Lib.hid hfT
        have HG := Lib.hid hgood
        clear hLe hfF hfT hgood
        have hbW : ∀ W9 j, Ext W W9 → W9.cell? ⟨w.heap.size, j, none⟩ = (#[.int .i64 n.places, .slice A n.paths.length c, .int .i64 p.grade, .int .i64 p.load, .int .i64 p.pace.lo, .int .i64 p.pace.hi] : Array Value)[j]? := fun W9 j h => B4 W9 j (hst1.kb.ext_ hinb4 h)
        have hqW : ∀ W9, Ext W W9 → W9.cell? ⟨w2.heap.size, 0, none⟩ = some (.slice (some ⟨rb, 0, none⟩) N N) := fun W9 h => Q4 W9 (hst1.kb.ext_ hinb4 h)
        obtain ⟨i, hil⟩ := x
        dsimp only [vPth, Value.cells] at hbx
        obtain ⟨⟨F0, F1⟩, ⟨D0, D1⟩, _, _, _, _, olen, _⟩ := pathOk_iff.1 (HALL.out _ (nth_mem hil))
        have hNI := HNN.out
        have F2 : (nth n.paths i).frm.toNat < N := by omega
        have F3 : (nth n.paths i).frm < (N : Int) := by omega
        have D2 : (nth n.paths i).dst.toNat < N := by omega
        have D3 : (nth n.paths i).dst < (N : Int) := by omega
        have hLl : L.length = N := by rw [HG.out.1, hNI]
        have rF : ∀ W9, Ext W W9 → W9.cell? ⟨rb, (nth n.paths i).frm.toNat, none⟩ = some (.int .i64 (nth L (nth n.paths i).frm.toNat)) := fun W9 h => (hst1.row.ext h).cell (by omega)
        have rD : ∀ W9, Ext W W9 → W9.cell? ⟨rb, (nth n.paths i).dst.toNat, none⟩ = some (.int .i64 (nth L (nth n.paths i).dst.toNat)) := fun W9 h => (hst1.row.ext h).cell (by omega)
        have xW : ∀ W9 j, Ext W W9 → W9.cell? ⟨Bx, j, none⟩ = (#[.int .i64 (nth n.paths i).frm, .int .i64 (nth n.paths i).dst, .int .i64 (nth n.paths i).grade, .int .i64 (nth n.paths i).time.lo, .int .i64 (nth n.paths i).time.hi, .int .i64 (nth n.paths i).snow.lo, .int .i64 (nth n.paths i).snow.hi, .slice (B i) (nth n.paths i).opens.length (C i)] : Array Value)[j]? := fun W9 j h => by
          rw [h.cell (Array.getElem?_eq_some_iff.1 hbx).1]
          simp [World.cell?, hbx]
        clear hNI
        gi_wp2_with fail
        refine wpIn_region_ext (fun _ => trivial) rfl (fun h => CallsIn.inRound l (callsIn_wide.2 h)) (by kernel_rfl) (by kernel_rfl) ?_
        have hpW : ∀ d os, Pths (grow (redrawn W d) os) A B C n.paths := fun d os => HN.out.ext ((HX4 _ hst1.kb).trans (ext_regrown W d os))
        have hbd1 := HG.out.2 (nth n.paths i).dst.toNat (by omega)
        have hbd2 := HG.out.2 (nth n.paths i).frm.toNat (by omega)
        have hbd3 : -1 ≤ lastOf n p L i ∧ lastOf n p L i ≤ 2880 := lastOf_bd HOK.out HPK.out HG.out hil
        repeat (go_big_quiet_step (exact Calls.regrown_of (paths_latest n p A B C c i _ _ (hpW _ _) hil HOK.out HPK.out hbd1.1 (by omega))))
        refine wpQuiet_nil ?_
        rintro W2 hg
        have hxW2 : Ext W W2 := by
          obtain ⟨g, rfl⟩ := hg
          exact ext_regrown W g.d g.os
        clear hg hpW
        have hst2 := hst1.ext_ hinb4 hxW2
        have hWi : Inb w.heap.size [wf.heap.size, wf.heap.size + 1] W := ⟨Nat.le_trans hinb6.low hB0, fun k hk => Nat.lt_of_lt_of_le (hinb6.own k hk) hB0⟩
        have hk2 : KB w.heap.size [wf.heap.size, wf.heap.size + 1] W W2 := KB.of_ext hWi hxW2
        have hf2 : KeepsFrom w6.heap.size W W2 := keepsFrom_ext (KeepsFrom.refl _ _) hxW2
        have z2 := hst2.row.frozen
        obtain ⟨T, hT⟩ : ∃ T, latestOf (nth n.paths i) (nth L (nth n.paths i).dst.toNat - (spanOf p (nth n.paths i)).hi) = T := ⟨_, rfl⟩
        rw [show lastOf n p L i = T from hT] at hbd3
        rw [hT]
        have HT := Lib.hid (show lastOf n p L i = T from hT)
        clear hT
        by_cases hlt : nth L (nth n.paths i).frm.toNat < T
        · have hst3 := (hst2.setRow hrw4.1 hrw4.2.1 hb3 (nth n.paths i).frm.toNat T)
          have hk3 := hk2.setCell (p := ⟨rb, (nth n.paths i).frm.toNat, none⟩) (by exact hrw4.1) (by simp only [List.mem_cons, List.not_mem_nil, or_false]; omega) (.int .i64 T)
          have hf3 := keepsFrom_set (p := ⟨rb, (nth n.paths i).frm.toNat, none⟩) (u := .int .i64 T) hf2 hst2.row
          obtain ⟨W3', hW3'⟩ : ∃ W3', W2.setCell ⟨rb, (nth n.paths i).frm.toNat, none⟩ (.int .i64 T) = W3' := ⟨_, rfl⟩
          rw [hW3'] at hst3 hk3 hf3
          have hff3 := hst3.flagFree
          have hfc3 := hst3.flagCell
          have hst4' := hst3.setFlag hb1 hb2 hb3 true
          have hk4 := hk3.setCell (p := ⟨bc, 0, none⟩) hb1 (by simp only [List.mem_cons, List.not_mem_nil, or_false]; omega) (.bool true)
          have hf4 := keepsFrom_set (p := ⟨bc, 0, none⟩) (u := .bool true) hf3 hst3.flag
          have HS4 := Lib.hid hst4'
          have HK4 := Lib.hid hk4
          have HF4 := Lib.hid hf4
          clear hst4' hk4 hf4
          gi_wp2_with fail
          have key : dRelaxL p (dRounds n p (dStart n to by_) k) (pre ++ [⟨i, hil⟩]) = L.set (nth n.paths i).frm.toNat T := by rw [dRelaxL_snoc, HLE.out, dRelax, HT.out, if_pos hlt]
          refine ⟨HF4.out, HK4.out, true, ?_, (fun h => (by cases h)), fun _ => ?_, Nat.le_trans hB0 HF4.out.size⟩ <;> rw [key]
          · exact HS4.out
          · have h1 := sumD_set (l := L) (i := (nth n.paths i).frm.toNat) (by omega) T
            have h2 : sumD L ≤ sumD (dRounds n p (dStart n to by_) k) := by
              cases fl1 with
              | false => rw [← HFF.out rfl]; exact Nat.le_refl _
              | true => exact Nat.le_of_lt (HFT.out rfl)
            omega
        · gi_wp2_with fail
          have key : dRelaxL p (dRounds n p (dStart n to by_) k) (pre ++ [⟨i, hil⟩]) = L := by rw [dRelaxL_snoc, HLE.out, dRelax, HT.out, if_neg (Int.not_lt.2 hlt)]
          refine ⟨hf2, hk2, fl1, ?_, ?_, ?_, Nat.le_trans hB0 hf2.size⟩ <;> rw [key]
          · exact hst2
          · exact HFF.out
          · exact HFT.out
      case done =>
        intro D xs W hD hxs hI hmk
        subst hxs
        obtain ⟨fl1, hst1, hfF, hfT, hB0⟩ := hI
        have hfc1 := hst1.flagCell
        have hm' : Marks (W.alloc (.cells #[.bool fl1] 4)) ({ target := .collected D, args := #[] } :: ds) :=
          marks_kept (w := W) ⟨⟨D, rfl, hmk, fun e he h => by have := hmb e he D h; omega⟩, hst1.marks⟩ fun E hE _ => (((Ext.refl W).alloc (.cells #[.bool fl1] 4)).block _ (Array.getElem?_eq_some_iff.1 hE).1).trans hE
        have hmf' : MarksFrom w.heap.size ({ target := .collected D, args := #[] } :: ds) := fun d hd E hE => by
          rcases List.mem_cons.1 hd with rfl | hd
          · cases hE
            exact Nat.le_trans hxw6.size hD
          · exact hmf d hd E hE
        have hst' : ArrSt w.heap.size rb W.heap.size [w.heap.size, w2.heap.size] W4 ({ target := .collected D, args := #[] } :: ds) (dRounds n p (dStart n to by_) (k + 1)) fl1 (W.alloc (.cells #[.bool fl1] 4)) :=
          ⟨hst1.row.ext ((Ext.refl W).alloc _), heap_alloc_new _ _, hst1.kb.ext_ hinb4 ((Ext.refl W).alloc _), hm'⟩
        have HM' := Lib.hid hm'
        have HMF := Lib.hid hmf'
        have HS' := Lib.hid hst'
        have HFF := Lib.hid hfF
        have HFT := Lib.hid hfT
        clear hm' hmf' hst' hfF hfT
        gi_wp2_with fail
        refine ⟨⟨_, _, _, _, _, _, ⟨W.heap.size, k + 1, fl1, rfl, HS'.out, by omega, by simp only [List.mem_cons, List.not_mem_nil, or_false]; omega, by omega, fun h => congrArg _ (HFF.out h), HMF.out⟩, rfl⟩, ?_⟩
        show 2 * sumD (rowOf _ rb) + flagOf _ (.pointer (some ⟨W.heap.size, 0, none⟩)) < 2 * sumD (rowOf wo rb) + flagOf wo (.pointer (some ⟨bc, 0, none⟩))
        rw [rowOf_row HS'.out.row, rowOf_row hst.row, flagOf_cell HS'.out.flagCell, flagOf_cell hst.flagCell]
        cases fl1 with
        | false =>
          have h1 : dRounds n p (dStart n to by_) (k + 1) = dRounds n p (dStart n to by_) k := HFF.out rfl
          rw [h1]
          simp
        | true =>
          have h1 : sumD (dRounds n p (dStart n to by_) (k + 1)) < sumD (dRounds n p (dStart n to by_) k) := HFT.out rfl
          simp
          omega
      case stop =>
        rintro D c pre W _ _ h _
        exact h.elim
end Go.Proofs.Ytnjlpkdpmbpblaa
namespace Go.Proofs.Ytnjlpkdpmbpblaa
open Go.RowKit Go.Shelf Go.Sort
attribute [local go_sem] Oper.semAt_some
set_option maxRecDepth 100000 in
set_option maxHeartbeats 1000000 in
theorem paths_Latest (n : Nt) (p : Pty) (frm to by_ : Int) (A : Option Addr) (B : Nat → Option Addr) (C : Nat → Nat) (c : Nat) (w : World) (hn : Pths w A B C n.paths) (hok : netOk n = true) (hpk : partyOk p = true)
    (hf : 0 ≤ frm ∧ frm ≤ n.places - 1) (ht : 0 ≤ to ∧ to ≤ n.places - 1) (hs : 0 ≤ by_ ∧ by_ ≤ 2880) :
    Calls Try.prog 25 #[vNt n A c, vPty p, .int .i64 frm, .int .i64 to, .int .i64 by_] w fun e w' => ∃ l, Dead n p to by_ l ∧ Ext w w' ∧
      e = .returned (.tuple #[.int .i64 (if nth l frm.toNat = -1 then 0 else nth l frm.toNat), .int .i64 (if nth l frm.toNat = -1 then 3 else 0)]) := by
  dsimp only [vNt, vPty]
  have herr : askErr n p [frm, to] [by_] = 0 := by simp [askErr, npErr, hok, hpk, within, hf, hs, ht]
  have HN := Lib.hid hn
  have HOK := Lib.hid hok
  have HPK := Lib.hid hpk
  clear hn hok hpk
  obtain ⟨W1, hW1⟩ : ∃ W1, (((w.alloc (.cells #[.int .i64 n.places, .slice A n.paths.length c] 24)).alloc (.cells #[.int .i64 p.grade, .int .i64 p.load, .int .i64 p.pace.lo, .int .i64 p.pace.hi] 28)).alloc (.cells #[.int .i64 frm, .int .i64 to] 3)).alloc (.cells #[.int .i64 by_] 3) = W1 := ⟨_, rfl⟩
  have hx1 : Ext w W1 := hW1 ▸ ((((Ext.refl w).alloc _).alloc _).alloc _).alloc _
  have i1 : Ints W1 (some ⟨w.heap.size + 1 + 1, 0, none⟩) [frm, to] := by
    refine Row.ints (b := w.heap.size + 1 + 1) ?_
    rw [← hW1]
    refine Row.ext ?_ ((Ext.refl _).alloc _)
    unfold Row
    rw [heap_alloc_new' (by simp)]
    rfl
  have i2 : Ints W1 (some ⟨w.heap.size + 1 + 1 + 1, 0, none⟩) [by_] := by
    refine Row.ints (b := w.heap.size + 1 + 1 + 1) ?_
    rw [← hW1]
    unfold Row
    rw [heap_alloc_new' (by simp)]
    rfl
  have I1 := Lib.hid i1
  have I2 := Lib.hid i2
  clear i1 i2
  have hop := paths_open n p A B C c _ _ 2 1 [frm, to] [by_] W1 (HN.out.ext hx1) I1.out I2.out (by simp) (by simp)
  rw [herr] at hop
  have HOP := Lib.hid hop
  clear hop herr
  go_enter Try.func25, Try.ntmps25
  go_wp2_with fail
  refine HOP.out.mono ?_
  rintro e w2 ⟨rfl, hx2⟩
  have hx02 : Ext w w2 := hx1.trans hx2
  dsimp only [vWalk]
  obtain ⟨W3, hW3⟩ : ∃ W3, w2.alloc (.cells #[.int .i64 n.places, .slice A n.paths.length c, .int .i64 p.grade, .int .i64 p.load, .int .i64 p.pace.lo, .int .i64 p.pace.hi] 74) = W3 := ⟨_, rfl⟩
  have hx3 : Ext w2 W3 := hW3 ▸ (Ext.refl w2).alloc _
  have b : ∀ W9 j, Ext W3 W9 → W9.cell? ⟨w2.heap.size, j, none⟩ = (#[.int .i64 n.places, .slice A n.paths.length c, .int .i64 p.grade, .int .i64 p.load, .int .i64 p.pace.lo, .int .i64 p.pace.hi] : Array Value)[j]? := fun W9 j h => by rw [h.cell (by rw [← hW3]; simp only [World.size_alloc]; omega), ← hW3]; simp [go_sem]
  go_wp2_with fail
  refine (paths_deadlines n p to by_ A B C c W3 (HN.out.ext (hx02.trans hx3)) HOK.out HPK.out ht hs).mono ?_
  rintro e w4 ⟨b4, l, rfl, hb4, hrow, hd, hx4⟩
  have hgl : l.length = n.places.toNat := by
    obtain ⟨k, rfl⟩ := hd.1
    exact (good2_rounds HOK.out HPK.out (good2_start (by omega) hs) k).1
  have hc := hrow.cell (i := frm.toNat) (by omega)
  have hlt : frm < (l.length : Int) := by omega
  obtain ⟨f1, f2⟩ := hf
  have HGL := Lib.hid hgl
  clear hgl
  have HD := Lib.hid hd
  clear hd
  by_cases hm : nth l frm.toNat = -1
  · rw [hm] at hc
    go_wp2
    go_ret2
    exact ⟨l, HD.out, (hx02.trans hx3).trans hx4, by rw [if_pos hm, if_pos hm]; rfl⟩
  · go_wp2
    go_ret2
    exact ⟨l, HD.out, (hx02.trans hx3).trans hx4, by rw [if_neg hm, if_neg hm]; rfl⟩
end Go.Proofs.Ytnjlpkdpmbpblaa
