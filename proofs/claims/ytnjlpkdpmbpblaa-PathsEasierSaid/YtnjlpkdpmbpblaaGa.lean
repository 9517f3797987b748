/- Words for paths and memory, and the walks of what is small in layer 1. Conditions: in each contract. -/
import Derived.WalkKit
import Derived.WalkSpells
import Derived.WalkLawsBesides
import Derived.BigQuiet
import Derived.Lib.Hide
import Derived.Handy
import Derived.Laws.EntriesVeiled
import Derived.Test.YtnjlpkdpmbpblaaProg
import Derived.Shelf.Abstract
import Derived.StillTailTactics
set_option linter.unusedVariables false
set_option linter.unusedSimpArgs false
namespace Go.Proofs.Ytnjlpkdpmbpblaa

@[irreducible] def nth {α : Type} [Inhabited α] (l : List α) (k : Nat) : α := l.getD k default
theorem nth_eq {α : Type} [Inhabited α] {l : List α} {k : Nat} (h : k < l.length) : nth l k = l[k] := by simp [nth, h]
theorem nth_mem {α : Type} [Inhabited α] {l : List α} {k : Nat} (h : k < l.length) : nth l k ∈ l := by rw [nth_eq h]; exact List.getElem_mem h
theorem nth_set {α : Type} [Inhabited α] {l : List α} {i j : Nat} {x : α} (h : i < l.length) : nth (l.set i x) j = if i = j then x else nth l j := by
  unfold nth
  rw [List.getD_eq_getElem?_getD, List.getD_eq_getElem?_getD, List.getElem?_set]
  by_cases e : i = j
  · subst e; simp [h]
  · simp [e]

structure Spn where
  lo : Int
  hi : Int
  deriving Inhabited, DecidableEq
structure Pth where
  frm : Int
  dst : Int
  grade : Int
  time : Spn
  snow : Spn
  opens : List Spn
  deriving Inhabited, DecidableEq
structure Nt where
  places : Int
  paths : List Pth
  deriving Inhabited, DecidableEq
structure Pty where
  grade : Int
  load : Int
  pace : Spn
  deriving Inhabited, DecidableEq

def within (n lo hi : Int) : Bool := decide (lo ≤ n) && decide (n ≤ hi)
def spanOk (s : Spn) (lo hi : Int) : Bool := decide (lo ≤ s.lo) && decide (s.lo ≤ s.hi) && decide (s.hi ≤ hi)
def pathOk (places : Int) (p : Pth) : Bool :=
  within p.frm 0 (places - 1) && within p.dst 0 (places - 1) && decide (p.frm ≠ p.dst) && within p.grade 1 6 && spanOk p.time 1 600 && spanOk p.snow 0 30 &&
    decide (p.opens.length ≤ 6) && p.opens.all fun s => spanOk s 0 2880
def pathHead (places : Int) (p : Pth) : Bool :=
  within p.frm 0 (places - 1) && within p.dst 0 (places - 1) && !(p.frm == p.dst) && within p.grade 1 6 && spanOk p.time 1 600 && spanOk p.snow 0 30 && !decide ((6 : Int) < p.opens.length)
theorem pathOk_head (places : Int) (p : Pth) : pathOk places p = (pathHead places p && p.opens.all fun s => spanOk s 0 2880) := by
  have h1 : decide (p.frm ≠ p.dst) = !(p.frm == p.dst) := by
    by_cases h : p.frm = p.dst <;> simp [h]
  have h2 : decide (p.opens.length ≤ 6) = !decide ((6 : Int) < p.opens.length) := by
    by_cases h : p.opens.length ≤ 6
    · have : ¬ (6 : Int) < p.opens.length := by omega
      simp [h, this]
    · have : (6 : Int) < p.opens.length := by omega
      simp [h, this]
  simp only [pathOk, pathHead, h1, h2]
def netOk (n : Nt) : Bool := within n.places 1 12 && decide (n.paths.length ≤ 24) && n.paths.all (pathOk n.places)
def partyOk (p : Pty) : Bool := within p.grade 1 6 && spanOk p.pace 50 300 && within p.load 0 40

theorem within_iff {n lo hi : Int} : within n lo hi = true ↔ lo ≤ n ∧ n ≤ hi := by simp [within]
theorem spanOk_iff {s : Spn} {lo hi : Int} : spanOk s lo hi = true ↔ lo ≤ s.lo ∧ s.lo ≤ s.hi ∧ s.hi ≤ hi := by simp [spanOk, and_assoc]
theorem pathOk_iff {places : Int} {p : Pth} : pathOk places p = true ↔ (0 ≤ p.frm ∧ p.frm ≤ places - 1) ∧ (0 ≤ p.dst ∧ p.dst ≤ places - 1) ∧ p.frm ≠ p.dst ∧ (1 ≤ p.grade ∧ p.grade ≤ 6) ∧
    (1 ≤ p.time.lo ∧ p.time.lo ≤ p.time.hi ∧ p.time.hi ≤ 600) ∧ (0 ≤ p.snow.lo ∧ p.snow.lo ≤ p.snow.hi ∧ p.snow.hi ≤ 30) ∧ p.opens.length ≤ 6 ∧ ∀ s ∈ p.opens, 0 ≤ s.lo ∧ s.lo ≤ s.hi ∧ s.hi ≤ 2880 := by
  simp only [pathOk, Bool.and_eq_true, within_iff, spanOk_iff, decide_eq_true_eq, List.all_eq_true, and_assoc]
theorem netOk_iff {n : Nt} : netOk n = true ↔ (1 ≤ n.places ∧ n.places ≤ 12) ∧ n.paths.length ≤ 24 ∧ ∀ p ∈ n.paths, pathOk n.places p = true := by
  simp only [netOk, Bool.and_eq_true, within_iff, decide_eq_true_eq, List.all_eq_true, and_assoc]
theorem partyOk_iff {p : Pty} : partyOk p = true ↔ (1 ≤ p.grade ∧ p.grade ≤ 6) ∧ (50 ≤ p.pace.lo ∧ p.pace.lo ≤ p.pace.hi ∧ p.pace.hi ≤ 300) ∧ (0 ≤ p.load ∧ p.load ≤ 40) := by
  simp only [partyOk, Bool.and_eq_true, within_iff, spanOk_iff, and_assoc]

/-- the time of a path -/
def timeOf (t pace snow load : Int) : Int := (t * pace * (100 + 5 * snow + load) + 9999) / 10000
def spanOf (p : Pty) (x : Pth) : Spn := ⟨timeOf x.time.lo p.pace.lo x.snow.lo p.load, timeOf x.time.hi p.pace.hi x.snow.hi p.load⟩
def endOf (hi : Bool) (s : Spn) : Int := if hi then s.hi else s.lo

def neverN : Int := 1073741824
def enterStep (at_ e : Int) (s : Spn) : Int := if at_ ≤ s.hi then min e (max at_ s.lo) else e
def enterOf (l : List Spn) (at_ : Int) : Int := l.foldl (enterStep at_) neverN
def arriveOf (x : Pth) (at_ t : Int) : Int := if enterOf x.opens at_ + t > 2880 then neverN else enterOf x.opens at_ + t

/-- one path is looked at -/
def relax (n : Nt) (p : Pty) (hi : Bool) (but : Int) (l : List Int) (i : Nat) : List Int :=
  let x := nth n.paths i
  if (i : Int) ≠ but ∧ x.grade ≤ p.grade ∧ nth l x.frm.toNat ≠ neverN ∧ arriveOf x (nth l x.frm.toNat) (endOf hi (spanOf p x)) < nth l x.dst.toNat then
    l.set x.dst.toNat (arriveOf x (nth l x.frm.toNat) (endOf hi (spanOf p x)))
  else l
def relaxTo (n : Nt) (p : Pty) (hi : Bool) (but : Int) (l : List Int) : Nat → List Int
  | 0 => l
  | k + 1 => relax n p hi but (relaxTo n p hi but l k) k
def round (n : Nt) (p : Pty) (hi : Bool) (but : Int) (l : List Int) : List Int := relaxTo n p hi but l n.paths.length
def rounds (n : Nt) (p : Pty) (hi : Bool) (but : Int) (l : List Int) : Nat → List Int
  | 0 => l
  | k + 1 => round n p hi but (rounds n p hi but l k)
def startAt (n : Nt) (frm start : Int) : List Int := (List.replicate n.places.toNat neverN).set frm.toNat start
/-- what arrivals returns -/
def Arr (n : Nt) (p : Pty) (hi : Bool) (but frm start : Int) (l : List Int) : Prop :=
  (∃ k, l = rounds n p hi but (startAt n frm start) k) ∧ round n p hi but l = l

section
variable {n : Nt} {p : Pty} {hi : Bool} {but : Int}
theorem relax_length (l : List Int) (i : Nat) : (relax n p hi but l i).length = l.length := by unfold relax; dsimp only; split <;> simp
theorem relaxTo_length (l : List Int) : ∀ k, (relaxTo n p hi but l k).length = l.length
  | 0 => rfl
  | k + 1 => by rw [relaxTo, relax_length, relaxTo_length l k]
theorem rounds_length (l : List Int) : ∀ k, (rounds n p hi but l k).length = l.length
  | 0 => rfl
  | k + 1 => by rw [rounds, round, relaxTo_length, rounds_length l k]
theorem startAt_length (n : Nt) (frm start : Int) : (startAt n frm start).length = n.places.toNat := by simp [startAt]
theorem Arr.length {frm start : Int} {l : List Int} (h : Arr n p hi but frm start l) : l.length = n.places.toNat := by
  obtain ⟨⟨k, rfl⟩, _⟩ := h; rw [rounds_length, startAt_length]
theorem relax_le (l : List Int) (i : Nat) (hd : (nth n.paths i).dst.toNat < l.length) (j : Nat) : nth (relax n p hi but l i) j ≤ nth l j := by
  unfold relax; dsimp only
  split
  · rename_i h
    rw [nth_set hd]
    split
    · rename_i e; rw [← e]; exact Int.le_of_lt h.2.2.2
    · omega
  · omega
end

section
variable {n : Nt} {p : Pty} {hi : Bool} {but : Int}
/-- every destination is a place of the list -/
def InDst (n : Nt) (len : Nat) : Prop := ∀ i, i < n.paths.length → (nth n.paths i).dst.toNat < len
theorem relaxTo_le (l : List Int) (hd : InDst n l.length) (j : Nat) : ∀ k m, k ≤ m → m ≤ n.paths.length → nth (relaxTo n p hi but l m) j ≤ nth (relaxTo n p hi but l k) j := by
  intro k m hkm hm
  induction m with
  | zero => obtain rfl : k = 0 := by omega
            exact Int.le_refl _
  | succ m ih =>
    by_cases e : k = m + 1
    · subst e; exact Int.le_refl _
    · have h1 := ih (by omega) (by omega)
      have h2 := relax_le (n := n) (p := p) (hi := hi) (but := but) (relaxTo n p hi but l m) m (by rw [relaxTo_length]; exact hd m (by omega)) j
      rw [relaxTo]; omega
theorem ext_nth {l m : List Int} (hl : l.length = m.length) (h : ∀ j, j < l.length → nth l j = nth m j) : l = m := by
  apply List.ext_getElem hl
  intro j h1 h2
  have := h j h1
  rwa [nth_eq h1, nth_eq h2] at this
theorem relaxTo_fix (l : List Int) (hd : InDst n l.length) (hr : round n p hi but l = l) (k : Nat) (hk : k ≤ n.paths.length) : relaxTo n p hi but l k = l := by
  apply ext_nth (relaxTo_length l k)
  intro j _
  have h1 := relaxTo_le (p := p) (hi := hi) (but := but) l hd j k n.paths.length hk (Nat.le_refl _)
  have h2 := relaxTo_le (p := p) (hi := hi) (but := but) l hd j 0 k (Nat.zero_le _) hk
  have h3 : relaxTo n p hi but l n.paths.length = l := hr
  rw [h3] at h1
  have h4 : relaxTo n p hi but l 0 = l := rfl
  rw [h4] at h2
  omega
/-- a fixpoint is closed: no path brings anybody sooner -/
theorem closed_of_fix {l : List Int} (hd : InDst n l.length) (hr : round n p hi but l = l) {i : Nat} (hi' : i < n.paths.length) (hb : (i : Int) ≠ but) (hg : (nth n.paths i).grade ≤ p.grade) (hn : nth l (nth n.paths i).frm.toNat ≠ neverN) :
    nth l (nth n.paths i).dst.toNat ≤ arriveOf (nth n.paths i) (nth l (nth n.paths i).frm.toNat) (endOf hi (spanOf p (nth n.paths i))) := by
  have h1 := relaxTo_fix (p := p) (hi := hi) (but := but) l hd hr (i + 1) hi'
  rw [relaxTo, relaxTo_fix l hd hr i (by omega)] at h1
  apply Int.not_lt.1
  intro hlt
  unfold relax at h1
  dsimp only at h1
  rw [if_pos ⟨hb, hg, hn, hlt⟩] at h1
  have h2 : nth l (nth n.paths i).dst.toNat = arriveOf (nth n.paths i) (nth l (nth n.paths i).frm.toNat) (endOf hi (spanOf p (nth n.paths i))) := by
    have h3 := congrArg (fun m => nth m (nth n.paths i).dst.toNat) h1
    rw [nth_set (hd i hi'), if_pos rfl] at h3
    exact h3.symm
  omega
end
theorem enterOf_mono_at (l : List Spn) {a b : Int} (h : a ≤ b) : ∀ {e f : Int}, e ≤ f → l.foldl (enterStep a) e ≤ l.foldl (enterStep b) f := by
  induction l with
  | nil => intro e f hef; exact hef
  | cons s l ih =>
    intro e f hef
    rw [List.foldl_cons, List.foldl_cons]
    apply ih
    unfold enterStep
    split <;> split <;> omega
theorem enter_append_le (l m : List Spn) (a : Int) : enterOf (l ++ m) a ≤ enterOf l a := by
  unfold enterOf
  rw [List.foldl_append]
  generalize List.foldl (enterStep a) neverN l = e
  induction m generalizing e with
  | nil => exact Int.le_refl _
  | cons s m ih =>
    rw [List.foldl_cons]
    refine Int.le_trans (ih _) ?_
    unfold enterStep
    split <;> omega
theorem enterOf_le (l : List Spn) (a : Int) : enterOf l a ≤ neverN := by
  have h := enter_append_le [] l a
  simpa [enterOf] using h
theorem arriveOf_mono {x y : Pth} {a b t u : Int} (h : enterOf y.opens b ≤ enterOf x.opens a) (ht : u ≤ t) : arriveOf y b u ≤ arriveOf x a t ∨ arriveOf x a t = neverN := by
  unfold arriveOf
  split <;> split <;> omega
theorem arriveOf_le (x : Pth) (a t : Int) : arriveOf x a t ≤ neverN := by unfold arriveOf; split <;> simp [neverN] at * <;> omega
/-- every entry is at most 'never' -/
def Top (l : List Int) : Prop := ∀ j, j < l.length → nth l j ≤ neverN
section
variable {n : Nt} {p : Pty} {hi : Bool} {but : Int}
theorem top_relax {l : List Int} (h : Top l) (i : Nat) (hd : (nth n.paths i).dst.toNat < l.length) : Top (relax n p hi but l i) := by
  intro j hj
  rw [relax_length] at hj
  exact Int.le_trans (relax_le l i hd j) (h j hj)
theorem top_relaxTo {l : List Int} (h : Top l) (hd : InDst n l.length) : ∀ k, k ≤ n.paths.length → Top (relaxTo n p hi but l k)
  | 0, _ => h
  | k + 1, hk => top_relax (top_relaxTo h hd k (by omega)) k (by rw [relaxTo_length]; exact hd k (by omega))
theorem top_rounds {l : List Int} (h : Top l) (hd : InDst n l.length) : ∀ k, Top (rounds n p hi but l k)
  | 0 => h
  | k + 1 => top_relaxTo (top_rounds h hd k) (by rw [rounds_length]; exact hd) _ (Nat.le_refl _)
end
theorem nth_replicate (m : Nat) (x : Int) (j : Nat) (h : j < m) : nth (List.replicate m x) j = x := by simp [nth, h]
theorem nth_startAt {n : Nt} {frm start : Int} (hf : frm.toNat < n.places.toNat) (j : Nat) (hj : j < n.places.toNat) : nth (startAt n frm start) j = if frm.toNat = j then start else neverN := by
  unfold startAt
  rw [nth_set (by simpa using hf)]
  split
  · rfl
  · exact nth_replicate _ _ _ hj
theorem top_startAt {n : Nt} {frm start : Int} (hf : frm.toNat < n.places.toNat) (hs : start ≤ neverN) : Top (startAt n frm start) := by
  intro j hj
  rw [startAt_length] at hj
  rw [nth_startAt hf j hj]
  split <;> omega
/-- the places of paths that are valid -/
theorem inDst_of_ok {n : Nt} (h : netOk n = true) : InDst n n.places.toNat := by
  intro i hi
  obtain ⟨h1, _, h3⟩ := netOk_iff.1 h
  have h4 := pathOk_iff.1 (h3 _ (nth_mem hi))
  omega
theorem frm_of_ok {n : Nt} (h : netOk n = true) {i : Nat} (hi : i < n.paths.length) : (nth n.paths i).frm.toNat < n.places.toNat := by
  obtain ⟨h1, _, h3⟩ := netOk_iff.1 h
  have h4 := pathOk_iff.1 (h3 _ (nth_mem hi))
  omega
/-- one more round, or not: what comes first stays an upper bound -/
theorem rounds_le {n : Nt} {p : Pty} {hi : Bool} {but : Int} {l : List Int} (hd : InDst n l.length) (j : Nat) : ∀ k, nth (rounds n p hi but l k) j ≤ nth l j
  | 0 => Int.le_refl _
  | k + 1 => by
    have h1 := relaxTo_le (p := p) (hi := hi) (but := but) (rounds n p hi but l k) (by rw [rounds_length]; exact hd) j 0 n.paths.length (Nat.zero_le _) (Nat.le_refl _)
    exact Int.le_trans h1 (rounds_le hd j k)
/-- who looks at more, and easier, paths: B is closed and bounds the start; so it bounds all rounds -/
def Below2 (B l : List Int) : Prop := ∀ j, j < l.length → nth B j ≤ nth l j
theorem below_relax {n : Nt} {p : Pty} {hi : Bool} {but : Int} {B l : List Int} {i : Nat} (hd : (nth n.paths i).dst.toNat < l.length) (hf : (nth n.paths i).frm.toNat < l.length) (hb : Below2 B l) (hT : Top l)
    (hc : (i : Int) ≠ but → (nth n.paths i).grade ≤ p.grade → ∀ a, nth B (nth n.paths i).frm.toNat ≤ a → a < neverN → nth B (nth n.paths i).dst.toNat ≤ arriveOf (nth n.paths i) a (endOf hi (spanOf p (nth n.paths i)))) :
    Below2 B (relax n p hi but l i) := by
  intro j hj
  rw [relax_length] at hj
  unfold relax
  dsimp only
  split
  · rename_i h
    rw [nth_set hd]
    split
    · rename_i e
      rw [← e]
      have h1 := hb _ hf
      have h2 := hT _ hf
      exact hc h.1 h.2.1 _ h1 (by omega)
    · exact hb j hj
  · exact hb j hj
theorem below_rounds {n : Nt} {p : Pty} {hi : Bool} {but : Int} {B l : List Int} (hd : InDst n l.length) (hf : ∀ i, i < n.paths.length → (nth n.paths i).frm.toNat < l.length) (hb : Below2 B l) (hT : Top l)
    (hc : ∀ i, i < n.paths.length → (i : Int) ≠ but → (nth n.paths i).grade ≤ p.grade → ∀ a, nth B (nth n.paths i).frm.toNat ≤ a → a < neverN → nth B (nth n.paths i).dst.toNat ≤ arriveOf (nth n.paths i) a (endOf hi (spanOf p (nth n.paths i)))) :
    ∀ k, Below2 B (rounds n p hi but l k) := by
  intro k
  induction k with
  | zero => exact hb
  | succ k ih =>
    have hT' := top_rounds (p := p) (hi := hi) (but := but) hT hd k
    have hl := rounds_length (n := n) (p := p) (hi := hi) (but := but) l k
    rw [rounds, round]
    generalize rounds n p hi but l k = m at *
    have key : ∀ q, q ≤ n.paths.length → Below2 B (relaxTo n p hi but m q) := by
      intro q
      induction q with
      | zero => intro _; exact ih
      | succ q ihq =>
        intro hq
        have hlq := relaxTo_length (n := n) (p := p) (hi := hi) (but := but) m q
        exact below_relax (by rw [hlq, hl]; exact hd q (by omega)) (by rw [hlq, hl]; exact hf q (by omega)) (ihq (by omega)) (top_relaxTo hT' (by rw [hl]; exact hd) q (by omega)) (hc q (by omega))
    exact key _ (Nat.le_refl _)
end Go.Proofs.Ytnjlpkdpmbpblaa
namespace Go.Proofs.Ytnjlpkdpmbpblaa
open Go.RowKit

/-- The address of a slice is a plain one. -/
def Plain (A : Option Addr) : Prop := ∃ b o, A = some ⟨b, o, none⟩
def blk (A : Option Addr) : Nat := match A with | some a => a.block | none => 0
def off (A : Option Addr) : Nat := match A with | some a => a.off | none => 0

@[go_sem] theorem run_indexAt_plain {P : Program} (w : World) (t : TypeId) (A : Option Addr) (len cap : Nat) (k : IntKind) (i : Int) (h : P.underlying t = some (.slice (P.elem t))) (hA : Plain A) :
    (Instr.indexAt t (.slice A len cap) (.int k i)).run P w =
      if 0 ≤ i ∧ i < len then ((sizeOf (P.elem t)).run P w).andThen fun s w => .ok (.pointer (some ⟨blk A, off A + i.toNat * s, none⟩)) w
      else (boundsPanic k i len .index).run P w := by
  obtain ⟨b, o, rfl⟩ := hA
  rw [run_indexAt_slice _ _ _ _ _ _ _ h]
  simp only [blk, off, Addr.add_lit]

/-- n elements of sz cells each, from A on: cell j of element k is f k j. -/
def Sl (w : World) (A : Option Addr) (n sz : Nat) (f : Nat → Nat → Value) : Prop :=
  0 < n → Plain A ∧ blk A < w.heap.size ∧ ∀ k j, k < n → j < sz → w.cell? ⟨blk A, off A + k * sz + j, none⟩ = some (f k j)

/-- What was there is as it was. -/
def Ext (w w' : World) : Prop := Below w.heap.size w w'
theorem Ext.refl (w : World) : Ext w w := Below.refl _ _
theorem Ext.trans {a b c : World} (h : Ext a b) (k : Ext b c) : Ext a c := Below.trans h (Below.mono k h.size)
theorem Ext.cell {w w' : World} (h : Ext w w') {p : Addr} (hp : p.block < w.heap.size) : w'.cell? p = w.cell? p := Below.cell h hp
theorem Ext.alloc {a w : World} (h : Ext a w) (o : Obj) : Ext a (w.alloc o) := Below.alloc h h.size o
theorem Ext.drew {a w : World} (h : Ext a w) : Ext a w.drew := Below.drew h
theorem Ext.drewN {a w : World} (h : Ext a w) (n : Nat) : Ext a (w.drewN n) := ⟨h.os, h.tape, h.output, h.size, h.block⟩
theorem Ext.size {a w : World} (h : Ext a w) : a.heap.size ≤ w.heap.size := Below.size h
theorem Sl.ext {w w' : World} {A : Option Addr} {n sz : Nat} {f : Nat → Nat → Value} (h : Sl w A n sz f) (e : Ext w w') : Sl w' A n sz f := fun h0 => by
  obtain ⟨h1, h2, h3⟩ := h h0
  exact ⟨h1, Nat.lt_of_lt_of_le h2 e.size, fun k j hk hj => (e.cell h2).trans (h3 k j hk hj)⟩
theorem cell_off {w : World} {b o o' : Nat} {v : Value} (h : w.cell? ⟨b, o, none⟩ = some v) (e : o = o') : w.cell? ⟨b, o', none⟩ = some v := e ▸ h
/-- Elements of one cell, or the first cell of each. -/
theorem Sl.zero {w : World} {A : Option Addr} {n sz : Nat} {f : Nat → Nat → Value} (h : ∀ k j, k < n → j < sz → w.cell? ⟨blk A, off A + k * sz + j, none⟩ = some (f k j)) (hs : 0 < sz) : ∀ k, k < n → w.cell? ⟨blk A, off A + k * sz, none⟩ = some (f k 0) :=
  fun k hk => h k 0 hk hs
theorem Sl.one {w : World} {A : Option Addr} {n : Nat} {f : Nat → Nat → Value} (h : Sl w A n 1 f) (h0 : 0 < n) : Plain A ∧ blk A < w.heap.size ∧ ∀ k, k < n → w.cell? ⟨blk A, off A + k, none⟩ = some (f k 0) := by
  obtain ⟨h1, h2, h3⟩ := h h0
  exact ⟨h1, h2, fun k hk => cell_off (h3 k 0 hk (by omega)) (by omega)⟩





/-- A slice of ints. -/
def Ints (w : World) (A : Option Addr) (xs : List Int) : Prop := Sl w A xs.length 1 fun k _ => .int .i64 (nth xs k)
theorem Ints.ext {w w' : World} {A : Option Addr} {xs : List Int} (h : Ints w A xs) (e : Ext w w') : Ints w' A xs := Sl.ext h e

/-- Facts that hold in whatever world grew out of this one: the walk discharges 'Ext w W' by these. -/
@[go_sem] theorem ext_refl_t (w : World) : Ext w w = True := eq_true (Ext.refl w)
@[go_sem] theorem ext_alloc_t {a w : World} (o : Obj) (h : Ext a w) : Ext a (w.alloc o) = True := eq_true (Ext.alloc h o)
@[go_sem] theorem ext_drewN_t {a w : World} (n : Nat) (h : Ext a w) : Ext a (w.drewN n) = True := eq_true (Ext.drewN h n)
@[go_sem] theorem ext_drew_t {a w : World} (h : Ext a w) : Ext a w.drew = True := eq_true (Ext.drew h)
theorem Ext.box {w W : World} {cs : Array Value} {t : TypeId} (h : Ext (w.alloc (.cells cs t)) W) (j : Nat) : W.cell? ⟨w.heap.size, j, none⟩ = cs[j]? := by
  rw [h.cell (by simp)]
  exact World.cell?_alloc_new ..
theorem Ext.old {w W : World} {a : Addr} {v : Value} (h : w.cell? a = some v) (e : Ext w W) : W.cell? a = some v := by
  rw [e.cell ?_]; exact h
  exact block_lt_of_cell h
theorem Ext.froz {w W : World} {p : Addr} (hp : p.block < w.heap.size) (h : w.frozen? p = false) (e : Ext w W) : W.frozen? p = false := (Below.frozen e hp).trans h
/-- A store into a block that was laid since: what was there is as it was. -/
theorem Ext.setCell {a w : World} (h : Ext a w) {p : Addr} (hp : a.heap.size ≤ p.block) (u : Value) : Ext a (w.setCell p u) := Below.setCell h hp u
theorem Ext.sets6 {a w0 w : World} (h : Ext a w0) (k : Ext w0 w) {b : Nat} (hb : a.heap.size ≤ b) {u0 u1 u2 u3 u4 u5 : Value} :
    Ext a ((((((w.setCell ⟨b, 0, none⟩ u0).setCell ⟨b, 1, none⟩ u1).setCell ⟨b, 2, none⟩ u2).setCell ⟨b, 3, none⟩ u3).setCell ⟨b, 4, none⟩ u4).setCell ⟨b, 5, none⟩ u5) :=
  ((((((h.trans k).setCell hb _).setCell hb _).setCell hb _).setCell hb _).setCell hb _).setCell hb _
/-- The cells of a slice, in all later worlds. -/
theorem Sl.ever {w : World} {A : Option Addr} {n sz : Nat} {f : Nat → Nat → Value} (h : Sl w A n sz f) (h0 : 0 < n) : Plain A ∧ ∀ k j, k < n → j < sz → ∀ W, Ext w W → W.cell? ⟨blk A, off A + k * sz + j, none⟩ = some (f k j) := by
  obtain ⟨h1, _, h3⟩ := h h0
  exact ⟨h1, fun k j hk hj W hW => Ext.old (h3 k j hk hj) hW⟩
theorem Sl.ever0 {w : World} {A : Option Addr} {n sz : Nat} {f : Nat → Nat → Value} (h : Sl w A n sz f) (h0 : 0 < n) (hs : 0 < sz) : ∀ k, k < n → ∀ W, Ext w W → W.cell? ⟨blk A, off A + k * sz, none⟩ = some (f k 0) := by
  obtain ⟨_, _, h3⟩ := h h0
  exact fun k hk W hW => Ext.old (h3 k 0 hk hs) hW

theorem Sl.ever1 {w : World} {A : Option Addr} {n : Nat} {f : Nat → Nat → Value} (h : Sl w A n 1 f) (h0 : 0 < n) : ∀ k, k < n → ∀ W, Ext w W → W.cell? ⟨blk A, off A + k, none⟩ = some (f k 0) := by
  obtain ⟨_, _, h3⟩ := h h0
  exact fun k hk W hW => Ext.old (cell_off (h3 k 0 hk (by omega)) (by omega)) hW
theorem ret_bool {a b : Bool} (h : a = b) : Ending.returned (.bool a) = .returned (.bool b) := by rw [h]
theorem ret_int {k : IntKind} {a b : Int} (h : a = b) : Ending.returned (.int k a) = .returned (.int k b) := by rw [h]
/-- is there one among the first n -/
def anyTo (p : Nat → Bool) (n : Nat) : Bool := (List.range n).any p
theorem anyTo_false {p : Nat → Bool} {n : Nat} (h : ∀ j, j < n → p j = false) : anyTo p n = false := by
  unfold anyTo
  rw [List.any_eq_false]
  intro j hj
  simp [h j (List.mem_range.1 hj)]
theorem anyTo_true {p : Nat → Bool} {n k : Nat} (hk : k < n) (h : p k = true) : anyTo p n = true := List.any_eq_true.2 ⟨k, List.mem_range.2 hk, h⟩
theorem anyTo_not_all {α : Type} [Inhabited α] (l : List α) (q : α → Bool) : anyTo (fun k => !q (nth l k)) l.length = !l.all q := by
  by_cases h : l.all q = true
  · rw [h, anyTo_false (fun j hj => by rw [List.all_eq_true.1 h _ (nth_mem hj)]; rfl)]
    rfl
  · have h' : l.all q = false := by simpa using h
    rw [h']
    obtain ⟨x, hx, hq⟩ := List.all_eq_false.1 h'
    obtain ⟨k, hk, rfl⟩ := List.getElem_of_mem hx
    exact anyTo_true hk (by rw [nth_eq hk]; simpa using hq)
def IdxIs (p : Nat → Bool) (n : Nat) (r : Int) : Prop := (r = -1 ∧ ∀ j, j < n → p j = false) ∨ ∃ k : Nat, k < n ∧ r = k ∧ p k = true ∧ ∀ j, j < k → p j = false
def IdxPost (w : World) (p : Nat → Bool) (n : Nat) (e : Ending) (w' : World) : Prop := ∃ r, e = .returned (.int .i64 r) ∧ IdxIs p n r ∧ Ext w w'
theorem idx_bool {p : Nat → Bool} {n : Nat} {r : Int} (h : IdxIs p n r) : decide (0 ≤ r) = anyTo p n := by
  rcases h with ⟨rfl, h⟩ | ⟨k, hk, rfl, hp, _⟩
  · rw [anyTo_false h]; rfl
  · rw [anyTo_true hk hp]; simp

/-- how the data of paths lie in memory -/
abbrev vSpn (s : Spn) : Value := .agg #[.int .i64 s.lo, .int .i64 s.hi]
abbrev Spns (w : World) (A : Option Addr) (l : List Spn) : Prop := Sl w A l.length 2 fun k j => .int .i64 (match j with | 0 => (nth l k).lo | _ => (nth l k).hi)
def pathCell (B : Nat → Option Addr) (C : Nat → Nat) (l : List Pth) (k j : Nat) : Value :=
  match j with
  | 0 => .int .i64 (nth l k).frm
  | 1 => .int .i64 (nth l k).dst
  | 2 => .int .i64 (nth l k).grade
  | 3 => .int .i64 (nth l k).time.lo
  | 4 => .int .i64 (nth l k).time.hi
  | 5 => .int .i64 (nth l k).snow.lo
  | 6 => .int .i64 (nth l k).snow.hi
  | _ => .slice (B k) (nth l k).opens.length (C k)
/-- a slice of paths: B k, C k: where the opens of path k lie, and their capacity -/
structure Pths (w : World) (A : Option Addr) (B : Nat → Option Addr) (C : Nat → Nat) (l : List Pth) : Prop where
  cells : Sl w A l.length 8 (pathCell B C l)
  opens : ∀ k, k < l.length → Spns w (B k) (nth l k).opens
/-- what a walk reads of path k -/
structure PthAt (w : World) (A : Option Addr) (B : Nat → Option Addr) (C : Nat → Nat) (l : List Pth) (k : Nat) : Prop where
  c0 : ∀ W, Ext w W → W.cell? ⟨blk A, off A + k * 8, none⟩ = some (.int .i64 (nth l k).frm)
  c1 : ∀ W, Ext w W → W.cell? ⟨blk A, off A + k * 8 + 1, none⟩ = some (.int .i64 (nth l k).dst)
  c2 : ∀ W, Ext w W → W.cell? ⟨blk A, off A + k * 8 + 2, none⟩ = some (.int .i64 (nth l k).grade)
  c3 : ∀ W, Ext w W → W.cell? ⟨blk A, off A + k * 8 + 3, none⟩ = some (.int .i64 (nth l k).time.lo)
  c4 : ∀ W, Ext w W → W.cell? ⟨blk A, off A + k * 8 + 4, none⟩ = some (.int .i64 (nth l k).time.hi)
  c5 : ∀ W, Ext w W → W.cell? ⟨blk A, off A + k * 8 + 5, none⟩ = some (.int .i64 (nth l k).snow.lo)
  c6 : ∀ W, Ext w W → W.cell? ⟨blk A, off A + k * 8 + 6, none⟩ = some (.int .i64 (nth l k).snow.hi)
  c7 : ∀ W, Ext w W → W.cell? ⟨blk A, off A + k * 8 + 7, none⟩ = some (.slice (B k) (nth l k).opens.length (C k))
theorem Pths.at_ {w : World} {A : Option Addr} {B : Nat → Option Addr} {C : Nat → Nat} {l : List Pth} (h : Pths w A B C l) {k : Nat} (hk : k < l.length) : Plain A ∧ PthAt w A B C l k := by
  obtain ⟨h1, h2⟩ := h.cells.ever (by omega)
  have h0 := h.cells.ever0 (by omega) (by omega) k hk
  exact ⟨h1, h0, h2 k 1 hk (by omega), h2 k 2 hk (by omega), h2 k 3 hk (by omega), h2 k 4 hk (by omega), h2 k 5 hk (by omega), h2 k 6 hk (by omega), h2 k 7 hk (by omega)⟩
theorem Pths.ext {w w' : World} {A : Option Addr} {B : Nat → Option Addr} {C : Nat → Nat} {l : List Pth} (h : Pths w A B C l) (e : Ext w w') : Pths w' A B C l :=
  ⟨h.cells.ext e, fun k hk => Sl.ext (h.opens k hk) e⟩
structure SpnAt (w : World) (A : Option Addr) (l : List Spn) (k : Nat) : Prop where
  c0 : ∀ W, Ext w W → W.cell? ⟨blk A, off A + k * 2, none⟩ = some (.int .i64 (nth l k).lo)
  c1 : ∀ W, Ext w W → W.cell? ⟨blk A, off A + k * 2 + 1, none⟩ = some (.int .i64 (nth l k).hi)
theorem spns_at {w : World} {A : Option Addr} {l : List Spn} (h : Spns w A l) {k : Nat} (hk : k < l.length) : Plain A ∧ SpnAt w A l k := by
  obtain ⟨h1, h2⟩ := h.ever (by omega)
  exact ⟨h1, h.ever0 (by omega) (by omega) k hk, h2 k 1 hk (by omega)⟩
end Go.Proofs.Ytnjlpkdpmbpblaa
namespace Go.Proofs.Ytnjlpkdpmbpblaa
open Go.RowKit
set_option maxHeartbeats 400000 in
theorem indexFunc_Span (A : Option Addr) (n c : Nat) (f : Nat → Nat → Value) (F : FuncId) (cap : Array Value) (p : Nat → Bool) (w : World) (hs : Sl w A n 2 f) (hn : n ≤ 4611686018427387904)
    (hent : ∀ args w, (callFunc F args).run Try.prog w = .ok (.enter F args) w)
    (hf : ∀ k, k < n → ∀ W, Ext w W → Calls Try.prog F (#[.agg #[f k 0, f k 1]] ++ cap) W fun e w' => e = .returned (.bool (p k)) ∧ Ext W w') :
    Calls Try.prog 93 #[.slice A n c, .func (.func F) #[] cap] w (IdxPost w p n) := by
  go_enter Try.func93, Try.ntmps93
  go_wp2
  go_loopw [8] (fun v8 wr => ∃ k : Nat, k ≤ n ∧ v8 = .int .i64 k ∧ (∀ j, j < k → p j = false) ∧ Ext w wr) (fun v8 _ => n - (intOf v8).toNat)
  case atStart => exact ⟨0, by omega, rfl, by omega, Ext.refl _⟩
  case round =>
    obtain ⟨k, hk, rfl, hj, hx⟩ := hrel
    have HJ := Lib.hid hj
    clear hj
    by_cases hlt : k < n
    · obtain ⟨pA, hc⟩ := hs.ever (by omega)
      have c0 := hs.ever0 (by omega) (by omega) k hlt
      have c1 := hc k 1 hlt (by omega)
      have hF := hf k hlt wr hx
      have HF := Lib.hid hF
      clear hF hc hf hs
      by_cases hp : p k = true
      · go_wp2_with fail
        refine (HF.out).mono ?_
        rintro e w1 ⟨rfl, hy⟩
        go_wp2
        go_ret
        exact ⟨_, rfl, .inr ⟨k, hlt, rfl, hp, HJ.out⟩, hx.trans hy⟩
      · have hp' : p k = false := by simpa using hp
        go_wp2_with fail
        refine (HF.out).mono ?_
        rintro e w1 ⟨rfl, hy⟩
        go_wp2
        go_roundw
        case rel =>
          refine ⟨k + 1, by omega, by go_num, fun j hj => ?_, hx.trans hy⟩
          by_cases e : j = k
          · subst e; exact hp'
          · exact HJ.out j (by omega)
        case measure => simp [intOf]; omega
    · go_wp2
      go_ret
      refine ⟨_, rfl, .inl ⟨rfl, fun j hj => HJ.out j (by omega)⟩, hx⟩
set_option maxHeartbeats 400000 in
theorem containsFunc_Span (A : Option Addr) (n c : Nat) (f : Nat → Nat → Value) (F : FuncId) (cap : Array Value) (p : Nat → Bool) (w : World) (hs : Sl w A n 2 f) (hn : n ≤ 4611686018427387904)
    (hent : ∀ args w, (callFunc F args).run Try.prog w = .ok (.enter F args) w)
    (hf : ∀ k, k < n → ∀ W, Ext w W → Calls Try.prog F (#[.agg #[f k 0, f k 1]] ++ cap) W fun e w' => e = .returned (.bool (p k)) ∧ Ext W w') :
    Calls Try.prog 89 #[.slice A n c, .func (.func F) #[] cap] w fun e w' => e = .returned (.bool (anyTo p n)) ∧ Ext w w' := by
  have H := Lib.hid (indexFunc_Span A n c f F cap p w hs hn hent hf)
  clear hf hs hent
  go_enter Try.func89, Try.ntmps89
  go_wp2_with fail
  refine (H.out).mono ?_
  rintro e w1 ⟨r, rfl, hi, hx⟩
  have hr := idx_bool hi
  have HR := Lib.hid hr
  clear hr hi
  go_wp2
  go_ret
  exact ⟨ret_bool HR.out, hx⟩
end Go.Proofs.Ytnjlpkdpmbpblaa
namespace Go.Proofs.Ytnjlpkdpmbpblaa
open Go.RowKit
set_option maxHeartbeats 400000 in
theorem indexFunc_Path (A : Option Addr) (n c : Nat) (f : Nat → Nat → Value) (F : FuncId) (cap : Array Value) (p : Nat → Bool) (w : World) (hs : Sl w A n 8 f) (hn : n ≤ 4611686018427387904)
    (hent : ∀ args w, (callFunc F args).run Try.prog w = .ok (.enter F args) w)
    (hf : ∀ k, k < n → ∀ W, Ext w W → Calls Try.prog F (#[.agg #[f k 0, f k 1, f k 2, f k 3, f k 4, f k 5, f k 6, f k 7]] ++ cap) W fun e w' => e = .returned (.bool (p k)) ∧ Ext W w') :
    Calls Try.prog 94 #[.slice A n c, .func (.func F) #[] cap] w (IdxPost w p n) := by
  go_enter Try.func94, Try.ntmps94
  go_wp2
  go_loopw [8] (fun v8 wr => ∃ k : Nat, k ≤ n ∧ v8 = .int .i64 k ∧ (∀ j, j < k → p j = false) ∧ Ext w wr) (fun v8 _ => n - (intOf v8).toNat)
  case atStart => exact ⟨0, by omega, rfl, by omega, Ext.refl _⟩
  case round =>
    obtain ⟨k, hk, rfl, hj, hx⟩ := hrel
    have HJ := Lib.hid hj
    clear hj
    by_cases hlt : k < n
    · obtain ⟨pA, hc⟩ := hs.ever (by omega)
      have c0 := hs.ever0 (by omega) (by omega) k hlt
      have c1 := hc k 1 hlt (by omega)
      have c2 := hc k 2 hlt (by omega)
      have c3 := hc k 3 hlt (by omega)
      have c4 := hc k 4 hlt (by omega)
      have c5 := hc k 5 hlt (by omega)
      have c6 := hc k 6 hlt (by omega)
      have c7 := hc k 7 hlt (by omega)
      have hF := hf k hlt wr hx
      have HF := Lib.hid hF
      clear hF hc hf hs
      by_cases hp : p k = true
      · go_wp2_with fail
        refine (HF.out).mono ?_
        rintro e w1 ⟨rfl, hy⟩
        go_wp2
        go_ret
        exact ⟨_, rfl, .inr ⟨k, hlt, rfl, hp, HJ.out⟩, hx.trans hy⟩
      · have hp' : p k = false := by simpa using hp
        go_wp2_with fail
        refine (HF.out).mono ?_
        rintro e w1 ⟨rfl, hy⟩
        go_wp2
        go_roundw
        case rel =>
          refine ⟨k + 1, by omega, by go_num, fun j hj => ?_, hx.trans hy⟩
          by_cases e : j = k
          · subst e; exact hp'
          · exact HJ.out j (by omega)
        case measure => simp [intOf]; omega
    · go_wp2
      go_ret
      refine ⟨_, rfl, .inl ⟨rfl, fun j hj => HJ.out j (by omega)⟩, hx⟩
set_option maxHeartbeats 400000 in
theorem containsFunc_Path (A : Option Addr) (n c : Nat) (f : Nat → Nat → Value) (F : FuncId) (cap : Array Value) (p : Nat → Bool) (w : World) (hs : Sl w A n 8 f) (hn : n ≤ 4611686018427387904)
    (hent : ∀ args w, (callFunc F args).run Try.prog w = .ok (.enter F args) w)
    (hf : ∀ k, k < n → ∀ W, Ext w W → Calls Try.prog F (#[.agg #[f k 0, f k 1, f k 2, f k 3, f k 4, f k 5, f k 6, f k 7]] ++ cap) W fun e w' => e = .returned (.bool (p k)) ∧ Ext W w') :
    Calls Try.prog 90 #[.slice A n c, .func (.func F) #[] cap] w fun e w' => e = .returned (.bool (anyTo p n)) ∧ Ext w w' := by
  have H := Lib.hid (indexFunc_Path A n c f F cap p w hs hn hent hf)
  clear hf hs hent
  go_enter Try.func90, Try.ntmps90
  go_wp2_with fail
  refine (H.out).mono ?_
  rintro e w1 ⟨r, rfl, hi, hx⟩
  have hr := idx_bool hi
  have HR := Lib.hid hr
  clear hr hi
  go_wp2
  go_ret
  exact ⟨ret_bool HR.out, hx⟩
end Go.Proofs.Ytnjlpkdpmbpblaa
namespace Go.Proofs.Ytnjlpkdpmbpblaa
open Go.RowKit



set_option maxHeartbeats 400000 in
theorem ref01_within (n lo hi : Int) (w : World) : Calls Try.prog 36 #[.int .i64 n, .int .i64 lo, .int .i64 hi] w fun e w' => e = .returned (.bool (within n lo hi)) ∧ w = w' := by
  by_cases h : lo ≤ n
  · go_enter Try.func36, Try.ntmps36
    go_wp2
    go_ret
    exact ⟨ret_bool (by simp [within, h]), rfl⟩
  · go_enter Try.func36, Try.ntmps36
    go_wp2
    go_ret
    exact ⟨ret_bool (by have : ¬ lo ≤ n := by omega
                        simp [within, this]), rfl⟩

set_option maxHeartbeats 400000 in
theorem ref01_isSpan (s : Spn) (lo hi : Int) (w : World) : Calls Try.prog 53 #[vSpn s, .int .i64 lo, .int .i64 hi] w fun e w' => e = .returned (.bool (spanOk s lo hi)) ∧ Ext w w' := by
  obtain ⟨sl, sh⟩ := s
  by_cases h : lo ≤ sl
  · by_cases h2 : sl ≤ sh
    · go_enter Try.func53, Try.ntmps53
      go_wp2
      go_ret
      exact ⟨ret_bool (by simp [spanOk, h, h2]), (Ext.refl _).alloc _⟩
    · have h2' : decide (sl ≤ sh) = false := by simpa using h2
      go_enter Try.func53, Try.ntmps53
      go_wp2
      go_ret
      exact ⟨ret_bool (by simp [spanOk, h2']), (Ext.refl _).alloc _⟩
  · have h' : decide (lo ≤ sl) = false := by simpa using h
    go_enter Try.func53, Try.ntmps53
    go_wp2
    go_ret
    exact ⟨ret_bool (by simp [spanOk, h']), (Ext.refl _).alloc _⟩

abbrev vNt (n : Nt) (A : Option Addr) (c : Nat) : Value := .agg #[.int .i64 n.places, .slice A n.paths.length c]
set_option maxHeartbeats 400000 in
theorem ref01_IsPlace (n : Nt) (A : Option Addr) (c : Nat) (x : Int) (w : World) (h1 : -1000000 ≤ n.places) (h2 : n.places ≤ 1000000) :
    Calls Try.prog 12 #[vNt n A c, .int .i64 x] w fun e w' => e = .returned (.bool (within x 0 (n.places - 1))) ∧ Ext w w' := by
  go_enter Try.func12, Try.ntmps12
  go_wp2_with (go_at_call 36; refine (ref01_within _ _ _ _).mono ?_; rintro e w1 ⟨rfl, rfl⟩)
  go_ret
  exact ⟨rfl, (Ext.refl _).alloc _⟩
set_option maxHeartbeats 400000 in
theorem ref01_IsPath (n : Nt) (A : Option Addr) (c : Nat) (x : Int) (w : World) (h1 : n.paths.length ≤ 1000000) :
    Calls Try.prog 32 #[vNt n A c, .int .i64 x] w fun e w' => e = .returned (.bool (within x 0 ((n.paths.length : Int) - 1))) ∧ Ext w w' := by
  go_enter Try.func32, Try.ntmps32
  go_wp2_with (go_at_call 36; refine (ref01_within _ _ _ _).mono ?_; rintro e w1 ⟨rfl, rfl⟩)
  go_ret
  exact ⟨rfl, (Ext.refl _).alloc _⟩
set_option maxHeartbeats 400000 in
theorem ref01_IsMinute (x : Int) (w : World) : Calls Try.prog 20 #[.int .i64 x] w fun e w' => e = .returned (.bool (within x 0 2880)) ∧ w = w' := by
  go_enter Try.func20, Try.ntmps20
  go_wp2_with (go_at_call 36; refine (ref01_within _ _ _ _).mono ?_; rintro e w1 ⟨rfl, rfl⟩)
  go_ret
  exact ⟨rfl, rfl⟩
end Go.Proofs.Ytnjlpkdpmbpblaa
namespace Go.Proofs.Ytnjlpkdpmbpblaa
open Go.RowKit

theorem all_of_all_get {α : Type} [Inhabited α] {l : List α} {q : α → Bool} (h : ∀ k, k < l.length → q (nth l k) = true) : l.all q = true := by
  rw [List.all_eq_true]
  intro x hx
  obtain ⟨k, hk, rfl⟩ := List.getElem_of_mem hx
  have := h k hk
  rwa [nth_eq hk] at this
theorem all_false {α : Type} [Inhabited α] {l : List α} {q : α → Bool} {k : Nat} (hk : k < l.length) (h : q (nth l k) = false) : l.all q = false := by
  rw [List.all_eq_false]
  exact ⟨_, nth_mem hk, by simp [h]⟩

theorem netBad {n : Nt} {k : Nat} (hk : k < n.paths.length) (h : pathOk n.places (nth n.paths k) = false) : netOk n = false := by
  unfold netOk
  rw [all_false hk h, Bool.and_false]
theorem netGood {n : Nt} (h1 : within n.places 1 12 = true) (h2 : n.paths.length ≤ 24) (h : ∀ k, k < n.paths.length → pathOk n.places (nth n.paths k) = true) : netOk n = true := by
  unfold netOk
  rw [all_of_all_get h, h1]
  simpa using h2
def okErr (b : Bool) (e : Int) : Int := if b then 0 else e

set_option maxHeartbeats 1000000 in
theorem ref01_Check (n : Nt) (A : Option Addr) (B : Nat → Option Addr) (C : Nat → Nat) (c : Nat) (w : World) (hn : Pths w A B C n.paths) :
    Calls Try.prog 33 #[vNt n A c] w fun e w' => e = .returned (.int .i64 (okErr (netOk n) 10)) ∧ Ext w w' := by
  by_cases h1 : within n.places 1 12 = true
  · by_cases h2 : n.paths.length ≤ 24
    · obtain ⟨W0, hW0⟩ : ∃ W0, w.alloc (.cells #[.int .i64 n.places, .slice A n.paths.length c] 24) = W0 := ⟨_, rfl⟩
      have hw0 : Ext w W0 := hW0 ▸ (Ext.refl w).alloc _
      have b0 : ∀ W, Ext W0 W → W.cell? ⟨w.heap.size, 0, none⟩ = some (.int .i64 n.places) := fun W h => by rw [(hW0 ▸ h : Ext _ W).box 0]; rfl
      have b1 : ∀ W, Ext W0 W → W.cell? ⟨w.heap.size, 1, none⟩ = some (.slice A n.paths.length c) := fun W h => by rw [(hW0 ▸ h : Ext _ W).box 1]; rfl
      have hn0 := hn.ext hw0
      have hpl := within_iff.1 h1
      have h2' : decide ((24 : Int) < n.paths.length) = false := by simp; omega
      obtain ⟨hp1, hp2⟩ := hpl
      dsimp only [vNt]
      go_enter Try.func33, Try.ntmps33
      go_wp2_with (go_at_call 36; refine (ref01_within _ _ _ _).mono ?_; rintro e w1 ⟨rfl, rfl⟩)
      go_loopw [3] (fun v3 wr => ∃ k : Nat, k ≤ n.paths.length ∧ v3 = .int .i64 k ∧ (∀ j, j < k → pathOk n.places (nth n.paths j) = true) ∧ Ext W0 wr) (fun v3 _ => n.paths.length - (intOf v3).toNat)
      case atStart => exact ⟨0, by omega, rfl, by omega, Ext.refl _⟩
      case round =>
        obtain ⟨k, hk, rfl, hj, hx⟩ := hrel
        obtain ⟨wo, rfl⟩ : ∃ wo : World, wo = wr := ⟨_, rfl⟩
        have HJ := Lib.hid hj
        clear hj
        by_cases hlt : k < n.paths.length
        · obtain ⟨pA, ⟨c0, c1, c2, c3, c4, c5, c6, c7⟩⟩ := hn0.at_ hlt
          have hop := hn0.opens k hlt
          generalize hp : nth n.paths k = p at *
          have HP := Lib.hid hp
          clear hp
          obtain ⟨frm, dst, grade, ⟨tl, th⟩, ⟨sl, sh⟩, opens⟩ := p
          dsimp only at c0 c1 c2 c3 c4 c5 c6 c7 hop
          clear hn hn0
          obtain ⟨W1, hW1⟩ : ∃ W1, wo.alloc (.cells #[.int .i64 frm, .int .i64 dst, .int .i64 grade, .int .i64 tl, .int .i64 th, .int .i64 sl, .int .i64 sh, .slice (B k) opens.length (C k)] 34) = W1 := ⟨_, rfl⟩
          have hx1 : Ext W0 W1 := hW1 ▸ hx.alloc _
          have q : ∀ W j, Ext W1 W → W.cell? ⟨wo.heap.size, j, none⟩ = (#[.int .i64 frm, .int .i64 dst, .int .i64 grade, .int .i64 tl, .int .i64 th, .int .i64 sl, .int .i64 sh, .slice (B k) opens.length (C k)] : Array Value)[j]? := fun W j h => (hW1 ▸ h : Ext _ W).box j
          by_cases hh : pathHead n.places ⟨frm, dst, grade, ⟨tl, th⟩, ⟨sl, sh⟩, opens⟩ = true
          case neg =>
            have hbad : netOk n = false := netBad hlt (by rw [HP.out, pathOk_head, Bool.eq_false_iff.2 hh, Bool.false_and])
            have HB := Lib.hid hbad
            clear hbad
            have HH := Lib.hid hh
            clear hh
            go_wp2_with (first
              | (go_at_call 12; refine (ref01_IsPlace n A c _ _ (by omega) (by omega)).mono ?_; rintro e w1 ⟨rfl, hy1⟩; have hz1 : Ext W1 w1 := Ext.trans (by first | exact Ext.refl _ | assumption) hy1; clear hy1; have hz0 : Ext W0 w1 := Ext.trans hx1 hz1)
              | (go_at_call 36; refine (ref01_within _ _ _ _).mono ?_; rintro e w1 ⟨rfl, rfl⟩)
              | (go_at_call 53; refine (ref01_isSpan ⟨_, _⟩ _ _ _).mono ?_; rintro e w1 ⟨rfl, hy1⟩; have hz1 : Ext W1 w1 := Ext.trans (by first | exact Ext.refl _ | assumption) hy1; clear hy1; have hz0 : Ext W0 w1 := Ext.trans hx1 hz1))
            all_goals first
              | (go_ret
                 exact ⟨ret_int (by rw [HB.out]; rfl), Ext.trans hw0 (by first | assumption | exact hx1)⟩)
              | (exfalso
                 have hg : (frm == dst) = false ∧ (opens.length : Int) ≤ 6 := by assumption
                 apply HH.out
                 have o7 : ¬ (6 : Int) < opens.length := by omega
                 simp [pathHead, *])
          have hh0 := hh
          simp only [pathHead, Bool.and_eq_true, Bool.not_eq_true'] at hh
          obtain ⟨⟨⟨⟨⟨⟨o1, o2⟩, o3⟩, o4⟩, o5⟩, o6⟩, o7⟩ := hh
          have HH := Lib.hid hh0
          clear hh0
          have o7i : opens.length ≤ 6 := by have := of_decide_eq_false o7; omega
          go_wp2_with (first
            | (go_at_call 12; refine (ref01_IsPlace n A c _ _ (by omega) (by omega)).mono ?_; rintro e w1 ⟨rfl, hy1⟩; have hz1 : Ext W1 w1 := Ext.trans (by first | exact Ext.refl _ | assumption) hy1; clear hy1; have hz0 : Ext W0 w1 := Ext.trans hx1 hz1)
            | (go_at_call 36; refine (ref01_within _ _ _ _).mono ?_; rintro e w1 ⟨rfl, rfl⟩)
            | (go_at_call 53; refine (ref01_isSpan ⟨_, _⟩ _ _ _).mono ?_; rintro e w1 ⟨rfl, hy1⟩; have hz1 : Ext W1 w1 := Ext.trans (by first | exact Ext.refl _ | assumption) hy1; clear hy1; have hz0 : Ext W0 w1 := Ext.trans hx1 hz1))
          have hopW : Spns W1 (B k) opens := Sl.ext hop hx1
          clear c0 c1 c2 c3 c4 c5 c6 c7
          go_loopw [5] (fun v5 wx => ∃ i : Nat, i ≤ opens.length ∧ v5 = .int .i64 i ∧ (∀ j, j < i → spanOk (nth opens j) 0 2880 = true) ∧ Ext W1 wx) (fun v5 _ => opens.length - (intOf v5).toNat)
          case atStart => exact ⟨0, by omega, rfl, by omega, hz1⟩
          case round =>
            obtain ⟨i, hi, rfl, hj, hxi⟩ := hrel
            have HI := Lib.hid hj
            clear hj
            have hxi0 : Ext W0 wr := hx1.trans hxi
            by_cases hli : i < opens.length
            · obtain ⟨pB, ⟨d0, d1⟩⟩ := spns_at hopW hli
              by_cases hs : spanOk (nth opens i) 0 2880 = true
              · go_wp2_with (go_at_call 53; refine (ref01_isSpan (nth opens i) _ _ _).mono ?_; rintro e w1 ⟨rfl, hy1⟩)
                go_roundw
                case rel =>
                  refine ⟨i + 1, by omega, by go_num, fun j hj' => ?_, hxi.trans hy1⟩
                  by_cases e : j = i
                  · subst e; exact hs
                  · exact HI.out j (by omega)
                case measure => simp [intOf]; omega
              · have hs' : spanOk (nth opens i) 0 2880 = false := by simpa using hs
                go_wp2_with (go_at_call 53; refine (ref01_isSpan (nth opens i) _ _ _).mono ?_; rintro e w1 ⟨rfl, hy1⟩)
                go_ret
                refine ⟨ret_int ?_, Ext.trans hw0 (hxi0.trans hy1)⟩
                have hbad : pathOk n.places ⟨frm, dst, grade, ⟨tl, th⟩, ⟨sl, sh⟩, opens⟩ = false := by
                  simp [pathOk, all_false (q := fun s => spanOk s 0 2880) hli hs']
                rw [netBad hlt (HP.out ▸ hbad)]
                rfl
            · have hi' : i = opens.length := by omega
              subst hi'
              go_wp2
              go_roundw
              case rel =>
                refine ⟨k + 1, by omega, by go_num, fun j hj' => ?_, hxi0⟩
                by_cases e : j = k
                · subst e
                  rw [HP.out]
                  rw [pathOk_head, HH.out, all_of_all_get (q := fun s => spanOk s 0 2880) HI.out]
                  rfl
                · exact HJ.out j (by omega)
              case measure => simp [intOf]; omega
        · have hk' : k = n.paths.length := by omega
          subst hk'
          go_wp2
          go_ret
          refine ⟨ret_int ?_, hw0.trans hx⟩
          rw [netGood h1 h2 HJ.out]
          rfl
    · go_enter Try.func33, Try.ntmps33
      go_wp2_with (go_at_call 36; refine (ref01_within _ _ _ _).mono ?_; rintro e w1 ⟨rfl, rfl⟩)
      go_ret
      exact ⟨ret_int (by simp [okErr, netOk, h2]), (Ext.refl _).alloc _⟩
  · have h1' : within n.places 1 12 = false := by simpa using h1
    go_enter Try.func33, Try.ntmps33
    go_wp2_with (go_at_call 36; refine (ref01_within _ _ _ _).mono ?_; rintro e w1 ⟨rfl, rfl⟩)
    go_ret
    exact ⟨ret_int (by simp [okErr, netOk, h1']), (Ext.refl _).alloc _⟩
end Go.Proofs.Ytnjlpkdpmbpblaa
namespace Go.Proofs.Ytnjlpkdpmbpblaa
open Go.RowKit Go.Shelf

set_option maxHeartbeats 400000 in
theorem paths_within (n lo hi : Int) (w : World) : Calls Try.prog 62 #[.int .i64 n, .int .i64 lo, .int .i64 hi] w fun e w' => e = .returned (.bool (within n lo hi)) ∧ w = w' := by
  by_cases h : lo ≤ n
  · go_enter Try.func62, Try.ntmps62
    go_wp2
    go_ret
    exact ⟨ret_bool (by simp [within, h]), rfl⟩
  · go_enter Try.func62, Try.ntmps62
    go_wp2
    go_ret
    exact ⟨ret_bool (by have : ¬ lo ≤ n := by omega
                        simp [within, this]), rfl⟩

set_option maxHeartbeats 400000 in
theorem paths_ordered (s : Spn) (lo hi : Int) (w : World) : Calls Try.prog 77 #[vSpn s, .int .i64 lo, .int .i64 hi] w fun e w' => e = .returned (.bool (spanOk s lo hi)) ∧ Ext w w' := by
  obtain ⟨sl, sh⟩ := s
  by_cases h : lo ≤ sl
  · by_cases h2 : sl ≤ sh
    · go_enter Try.func77, Try.ntmps77
      go_wp2
      go_ret
      exact ⟨ret_bool (by simp [spanOk, h, h2]), (Ext.refl _).alloc _⟩
    · have h2' : decide (sl ≤ sh) = false := by simpa using h2
      go_enter Try.func77, Try.ntmps77
      go_wp2
      go_ret
      exact ⟨ret_bool (by simp [spanOk, h2']), (Ext.refl _).alloc _⟩
  · have h' : decide (lo ≤ sl) = false := by simpa using h
    go_enter Try.func77, Try.ntmps77
    go_wp2
    go_ret
    exact ⟨ret_bool (by simp [spanOk, h']), (Ext.refl _).alloc _⟩

set_option maxHeartbeats 400000 in
theorem paths_Check1 (x places : Int) (b : Nat) (w : World) (hb : w.cell? ⟨b, 0, none⟩ = some (.int .i64 places)) (h1 : 1 ≤ places) (h2 : places ≤ 12) :
    Calls Try.prog 86 #[.int .i64 x, .pointer (some ⟨b, 0, none⟩)] w fun e w' => e = .returned (.bool (within x 0 (places - 1))) ∧ w = w' := by
  go_enter Try.func86, Try.ntmps86
  go_wp2_with (go_at_call 62; refine (paths_within _ _ _ _).mono ?_; rintro e w1 ⟨rfl, rfl⟩)
  go_ret
  exact ⟨rfl, rfl⟩
set_option maxHeartbeats 400000 in
theorem paths_Check2 (s : Spn) (w : World) :
    Calls Try.prog 87 #[vSpn s] w fun e w' => e = .returned (.bool (!spanOk s 0 2880)) ∧ Ext w w' := by
  obtain ⟨sl, sh⟩ := s
  go_enter Try.func87, Try.ntmps87
  go_wp2_with (go_at_call 77; refine (paths_ordered ⟨sl, sh⟩ _ _ _).mono ?_; rintro e w1 ⟨rfl, hx⟩)
  go_ret
  exact ⟨rfl, ((Ext.refl _).alloc _).trans hx⟩
theorem enters_Check2 : ∀ args w, (callFunc 87 args).run Try.prog w = .ok (.enter 87 args) w := enters_of Try.func87 (by kernel_rfl) rfl
theorem enters_Check3 : ∀ args w, (callFunc 88 args).run Try.prog w = .ok (.enter 88 args) w := enters_of Try.func88 (by kernel_rfl) rfl

set_option maxHeartbeats 1000000 in
theorem paths_Check3 (p : Pth) (places : Int) (A : Option Addr) (c : Nat) (b b1 b2 : Nat) (w : World) (hb : w.cell? ⟨b, 0, none⟩ = some (.int .i64 places)) (h1 : 1 ≤ places) (h2 : places ≤ 12)
    (hb1 : w.cell? ⟨b1, 0, none⟩ = some (.func (.func 86) #[] #[.pointer (some ⟨b, 0, none⟩)])) (hb2 : w.cell? ⟨b2, 0, none⟩ = some (.func (.func 87) #[] #[])) (ho : Spns w A p.opens) :
    Calls Try.prog 88 #[.agg #[.int .i64 p.frm, .int .i64 p.dst, .int .i64 p.grade, .int .i64 p.time.lo, .int .i64 p.time.hi, .int .i64 p.snow.lo, .int .i64 p.snow.hi, .slice A p.opens.length c], .pointer (some ⟨b1, 0, none⟩), .pointer (some ⟨b2, 0, none⟩)] w
      fun e w' => e = .returned (.bool (!pathOk places p)) ∧ Ext w w' := by
  obtain ⟨frm, dst, grade, ⟨tl, th⟩, ⟨sl, sh⟩, opens⟩ := p
  dsimp only at ho ⊢
  obtain ⟨W1, hW1⟩ : ∃ W1, w.alloc (.cells #[.int .i64 frm, .int .i64 dst, .int .i64 grade, .int .i64 tl, .int .i64 th, .int .i64 sl, .int .i64 sh, .slice A opens.length c] 34) = W1 := ⟨_, rfl⟩
  have hx1 : Ext w W1 := hW1 ▸ (Ext.refl w).alloc _
  have q : ∀ W j, Ext W1 W → W.cell? ⟨w.heap.size, j, none⟩ = (#[.int .i64 frm, .int .i64 dst, .int .i64 grade, .int .i64 tl, .int .i64 th, .int .i64 sl, .int .i64 sh, .slice A opens.length c] : Array Value)[j]? := fun W j h => (hW1 ▸ h : Ext _ W).box j
  have k0 : ∀ W, Ext W1 W → W.cell? ⟨b, 0, none⟩ = some (.int .i64 places) := fun W h => Ext.old hb (hx1.trans h)
  have k1 : ∀ W, Ext W1 W → W.cell? ⟨b1, 0, none⟩ = some (.func (.func 86) #[] #[.pointer (some ⟨b, 0, none⟩)]) := fun W h => Ext.old hb1 (hx1.trans h)
  have k2 : ∀ W, Ext W1 W → W.cell? ⟨b2, 0, none⟩ = some (.func (.func 87) #[] #[]) := fun W h => Ext.old hb2 (hx1.trans h)
  clear hb hb1 hb2
  by_cases hh : pathHead places ⟨frm, dst, grade, ⟨tl, th⟩, ⟨sl, sh⟩, opens⟩ = true
  · have hh0 := hh
    simp only [pathHead, Bool.and_eq_true, Bool.not_eq_true'] at hh
    obtain ⟨⟨⟨⟨⟨⟨o1, o2⟩, o3⟩, o4⟩, o5⟩, o6⟩, o7⟩ := hh
    have HH := Lib.hid hh0
    clear hh0
    have o7i : opens.length ≤ 6 := by have := of_decide_eq_false o7; omega
    have hopW : ∀ W, Ext W1 W → Spns W A opens := fun W h => Sl.ext ho (hx1.trans h)
    have HO := Lib.hid hopW
    clear hopW ho
    go_enter Try.func88, Try.ntmps88
    go_wp2_with (first
      | (go_at_call 86; refine (paths_Check1 _ places b _ (k0 _ (by first | exact Ext.refl _ | assumption)) h1 h2).mono ?_; rintro e w1 ⟨rfl, rfl⟩)
      | (go_at_call 62; refine (paths_within _ _ _ _).mono ?_; rintro e w1 ⟨rfl, rfl⟩)
      | (go_at_call 77; refine (paths_ordered ⟨_, _⟩ _ _ _).mono ?_; rintro e w1 ⟨rfl, hy1⟩; have hz1 : Ext W1 w1 := Ext.trans (by first | exact Ext.refl _ | assumption) hy1; clear hy1)
      | (go_at_call 89; refine (containsFunc_Span _ _ _ _ _ _ (fun k => !spanOk (nth opens k) 0 2880) _ (HO.out _ (by first | exact Ext.refl _ | assumption)) (by omega) enters_Check2 (fun k hk W hW => by rw [Array.append_empty]; exact paths_Check2 (nth opens k) W)).mono ?_; rintro e w1 ⟨rfl, hy1⟩; have hz1 : Ext W1 w1 := Ext.trans (by first | exact Ext.refl _ | assumption) hy1; clear hy1))
    go_ret
    refine ⟨ret_bool ?_, hx1.trans (by assumption)⟩
    rw [pathOk_head, HH.out]
    exact anyTo_not_all opens fun s => spanOk s 0 2880
  · have hh' : pathHead places ⟨frm, dst, grade, ⟨tl, th⟩, ⟨sl, sh⟩, opens⟩ = false := by simpa using hh
    have hbad : pathOk places ⟨frm, dst, grade, ⟨tl, th⟩, ⟨sl, sh⟩, opens⟩ = false := by rw [pathOk_head, hh', Bool.false_and]
    have HB := Lib.hid hbad
    have HH := Lib.hid hh
    clear hbad hh hh'
    have hopW : ∀ W, Ext W1 W → Spns W A opens := fun W h => Sl.ext ho (hx1.trans h)
    have HO := Lib.hid hopW
    clear hopW ho
    go_enter Try.func88, Try.ntmps88
    go_wp2_with (first
      | (go_at_call 86; refine (paths_Check1 _ places b _ (k0 _ (by first | exact Ext.refl _ | assumption)) h1 h2).mono ?_; rintro e w1 ⟨rfl, rfl⟩)
      | (go_at_call 62; refine (paths_within _ _ _ _).mono ?_; rintro e w1 ⟨rfl, rfl⟩)
      | (go_at_call 77; refine (paths_ordered ⟨_, _⟩ _ _ _).mono ?_; rintro e w1 ⟨rfl, hy1⟩; have hz1 : Ext W1 w1 := Ext.trans (by first | exact Ext.refl _ | assumption) hy1; clear hy1))
    all_goals first
      | (go_ret
         exact ⟨ret_bool (by rw [HB.out]; rfl), hx1.trans (by first | assumption | exact Ext.refl _)⟩)
      | (exfalso
         apply HH.out
         have o7 : ¬ (6 : Int) < opens.length := by omega
         simp [pathHead, *])

set_option maxHeartbeats 1000000 in
theorem paths_Check (n : Nt) (A : Option Addr) (B : Nat → Option Addr) (C : Nat → Nat) (c : Nat) (w : World) (hn : Pths w A B C n.paths) :
    Calls Try.prog 75 #[vNt n A c] w fun e w' => e = .returned (.int .i64 (okErr (netOk n) 10)) ∧ Ext w w' := by
  dsimp only [vNt]
  by_cases h1 : within n.places 1 12 = true
  · obtain ⟨hp1, hp2⟩ := within_iff.1 h1
    by_cases h2 : n.paths.length ≤ 24
    · have h2' : decide ((24 : Int) < n.paths.length) = false := by simp; omega
      obtain ⟨W, hW⟩ : ∃ W, ((w.alloc (.cells #[.int .i64 n.places, .slice A n.paths.length c] 24)).alloc (.cells #[.func (.func 86) #[] #[.pointer (some ⟨w.heap.size, 0, none⟩)]] 64)).alloc (.cells #[.func (.func 87) #[] #[]] 160) = W := ⟨_, rfl⟩
      have hx : Ext w W := hW ▸ (((Ext.refl w).alloc _).alloc _).alloc _
      have b0 : W.cell? ⟨w.heap.size, 0, none⟩ = some (.int .i64 n.places) := by rw [← hW]; simp [go_sem]
      have b1 : W.cell? ⟨w.heap.size + 1, 0, none⟩ = some (.func (.func 86) #[] #[.pointer (some ⟨w.heap.size, 0, none⟩)]) := by rw [← hW]; simp [go_sem]
      have b2 : W.cell? ⟨w.heap.size + 1 + 1, 0, none⟩ = some (.func (.func 87) #[] #[]) := by rw [← hW]; simp [go_sem]
      have b3 : W.cell? ⟨w.heap.size, 1, none⟩ = some (.slice A n.paths.length c) := by rw [← hW]; simp [go_sem]
      have hnW := hn.ext hx
      have HC := Lib.hid (containsFunc_Path A n.paths.length c (pathCell B C n.paths) 88 #[.pointer (some ⟨w.heap.size + 1, 0, none⟩), .pointer (some ⟨w.heap.size + 1 + 1, 0, none⟩)] (fun k => !pathOk n.places (nth n.paths k)) W hnW.cells (by omega) enters_Check3
        (fun k hk W' hW' => paths_Check3 (nth n.paths k) n.places (B k) (C k) w.heap.size (w.heap.size + 1) (w.heap.size + 1 + 1) W' (Ext.old b0 hW') hp1 hp2 (Ext.old b1 hW') (Ext.old b2 hW') (Sl.ext (hnW.opens k hk) hW')))
      clear hn hnW b1 b2
      go_enter Try.func75, Try.ntmps75
      go_wp2_with (first
        | (go_at_call 62; refine (paths_within _ _ _ _).mono ?_; rintro e w1 ⟨rfl, rfl⟩)
        | fail)
      refine (HC.out).mono ?_
      rintro e w1 ⟨rfl, hy⟩
      have hb : anyTo (fun k => !pathOk n.places (nth n.paths k)) n.paths.length = !n.paths.all (pathOk n.places) := anyTo_not_all n.paths (pathOk n.places)
      rw [hb]
      clear hb
      by_cases hall : n.paths.all (pathOk n.places) = true
      · rw [hall]
        go_wp2
        go_ret
        exact ⟨ret_int (by simp [okErr, netOk, h1, h2, hall]), hx.trans hy⟩
      · have hall' : n.paths.all (pathOk n.places) = false := by simpa using hall
        rw [hall']
        go_wp2
        go_ret
        exact ⟨ret_int (by simp [okErr, netOk, h1, h2, hall']), hx.trans hy⟩
    · have h2' : decide ((24 : Int) < n.paths.length) = true := by simp; omega
      go_enter Try.func75, Try.ntmps75
      go_wp2_with (first
        | (go_at_call 62; refine (paths_within _ _ _ _).mono ?_; rintro e w1 ⟨rfl, rfl⟩)
        | fail)
      go_ret
      exact ⟨ret_int (by simp [okErr, netOk, h2]), (((Ext.refl w).alloc _).alloc _).alloc _⟩
  · have h1' : within n.places 1 12 = false := by simpa using h1
    go_enter Try.func75, Try.ntmps75
    go_wp2_with (first
      | (go_at_call 62; refine (paths_within _ _ _ _).mono ?_; rintro e w1 ⟨rfl, rfl⟩)
      | fail)
    go_ret
    exact ⟨ret_int (by simp [okErr, netOk, h1']), (((Ext.refl w).alloc _).alloc _).alloc _⟩
end Go.Proofs.Ytnjlpkdpmbpblaa
namespace Go.Proofs.Ytnjlpkdpmbpblaa
open Go.RowKit
set_option maxHeartbeats 400000 in
theorem indexFunc_Int (A : Option Addr) (n c : Nat) (f : Nat → Nat → Value) (F : FuncId) (cap : Array Value) (p : Nat → Bool) (w : World) (hs : Sl w A n 1 f) (hn : n ≤ 4611686018427387904)
    (hent : ∀ args w, (callFunc F args).run Try.prog w = .ok (.enter F args) w)
    (hf : ∀ k, k < n → ∀ W, Ext w W → Calls Try.prog F (#[f k 0] ++ cap) W fun e w' => e = .returned (.bool (p k)) ∧ Ext W w') :
    Calls Try.prog 78 #[.slice A n c, .func (.func F) #[] cap] w (IdxPost w p n) := by
  go_enter Try.func78, Try.ntmps78
  go_wp2
  go_loopw [8] (fun v8 wr => ∃ k : Nat, k ≤ n ∧ v8 = .int .i64 k ∧ (∀ j, j < k → p j = false) ∧ Ext w wr) (fun v8 _ => n - (intOf v8).toNat)
  case atStart => exact ⟨0, by omega, rfl, by omega, Ext.refl _⟩
  case round =>
    obtain ⟨k, hk, rfl, hj, hx⟩ := hrel
    have HJ := Lib.hid hj
    clear hj
    by_cases hlt : k < n
    · obtain ⟨pA, hc⟩ := hs.ever (by omega)
      have c0 := hs.ever1 (by omega) k hlt
      have hF := hf k hlt wr hx
      have HF := Lib.hid hF
      clear hF hc hf hs
      by_cases hp : p k = true
      · go_wp2_with fail
        refine (HF.out).mono ?_
        rintro e w1 ⟨rfl, hy⟩
        go_wp2
        go_ret
        exact ⟨_, rfl, .inr ⟨k, hlt, rfl, hp, HJ.out⟩, hx.trans hy⟩
      · have hp' : p k = false := by simpa using hp
        go_wp2_with fail
        refine (HF.out).mono ?_
        rintro e w1 ⟨rfl, hy⟩
        go_wp2
        go_roundw
        case rel =>
          refine ⟨k + 1, by omega, by go_num, fun j hj => ?_, hx.trans hy⟩
          by_cases e : j = k
          · subst e; exact hp'
          · exact HJ.out j (by omega)
        case measure => simp [intOf]; omega
    · go_wp2
      go_ret
      refine ⟨_, rfl, .inl ⟨rfl, fun j hj => HJ.out j (by omega)⟩, hx⟩
set_option maxHeartbeats 400000 in
theorem containsFunc_Int (A : Option Addr) (n c : Nat) (f : Nat → Nat → Value) (F : FuncId) (cap : Array Value) (p : Nat → Bool) (w : World) (hs : Sl w A n 1 f) (hn : n ≤ 4611686018427387904)
    (hent : ∀ args w, (callFunc F args).run Try.prog w = .ok (.enter F args) w)
    (hf : ∀ k, k < n → ∀ W, Ext w W → Calls Try.prog F (#[f k 0] ++ cap) W fun e w' => e = .returned (.bool (p k)) ∧ Ext W w') :
    Calls Try.prog 60 #[.slice A n c, .func (.func F) #[] cap] w fun e w' => e = .returned (.bool (anyTo p n)) ∧ Ext w w' := by
  have H := Lib.hid (indexFunc_Int A n c f F cap p w hs hn hent hf)
  clear hf hs hent
  go_enter Try.func60, Try.ntmps60
  go_wp2_with fail
  refine (H.out).mono ?_
  rintro e w1 ⟨r, rfl, hi, hx⟩
  have hr := idx_bool hi
  have HR := Lib.hid hr
  clear hr hi
  go_wp2
  go_ret
  exact ⟨ret_bool HR.out, hx⟩
end Go.Proofs.Ytnjlpkdpmbpblaa
namespace Go.Proofs.Ytnjlpkdpmbpblaa
open Go.RowKit Go.Shelf

abbrev vPty (p : Pty) : Value := .agg #[.int .i64 p.grade, .int .i64 p.load, .int .i64 p.pace.lo, .int .i64 p.pace.hi]
abbrev vWalk (n : Nt) (p : Pty) (A : Option Addr) (c : Nat) : Value := .agg #[.int .i64 n.places, .slice A n.paths.length c, .int .i64 p.grade, .int .i64 p.load, .int .i64 p.pace.lo, .int .i64 p.pace.hi]
/-- the error of a net and a party -/
def npErr (n : Nt) (p : Pty) : Int := if netOk n then (if partyOk p then 0 else 11) else 10
theorem npErr_zero {n : Nt} {p : Pty} : npErr n p = 0 ↔ netOk n = true ∧ partyOk p = true := by
  unfold npErr; split <;> simp_all

set_option maxHeartbeats 1000000 in
theorem ref01_CheckParty (n : Nt) (p : Pty) (A : Option Addr) (B : Nat → Option Addr) (C : Nat → Nat) (c : Nat) (w : World) (hn : Pths w A B C n.paths) :
    Calls Try.prog 19 #[vNt n A c, vPty p] w fun e w' => e = .returned (.int .i64 (npErr n p)) ∧ Ext w w' := by
  obtain ⟨grade, load, ⟨lo, hi⟩⟩ := p
  dsimp only [vNt, vPty]
  obtain ⟨W, hW⟩ : ∃ W, (w.alloc (.cells #[.int .i64 n.places, .slice A n.paths.length c] 24)).alloc (.cells #[.int .i64 grade, .int .i64 load, .int .i64 lo, .int .i64 hi] 28) = W := ⟨_, rfl⟩
  have hx : Ext w W := hW ▸ ((Ext.refl w).alloc _).alloc _
  have b0 : ∀ W', Ext W W' → W'.cell? ⟨w.heap.size, 0, none⟩ = some (.int .i64 n.places) := fun W' h => Ext.old (by rw [← hW]; simp [go_sem]) h
  have b1 : ∀ W', Ext W W' → W'.cell? ⟨w.heap.size, 1, none⟩ = some (.slice A n.paths.length c) := fun W' h => Ext.old (by rw [← hW]; simp [go_sem]) h
  have d0 : ∀ W', Ext W W' → W'.cell? ⟨w.heap.size + 1, 0, none⟩ = some (.int .i64 grade) := fun W' h => Ext.old (by rw [← hW]; simp [go_sem]) h
  have d1 : ∀ W', Ext W W' → W'.cell? ⟨w.heap.size + 1, 1, none⟩ = some (.int .i64 load) := fun W' h => Ext.old (by rw [← hW]; simp [go_sem]) h
  have d2 : ∀ W', Ext W W' → W'.cell? ⟨w.heap.size + 1, 2, none⟩ = some (.int .i64 lo) := fun W' h => Ext.old (by rw [← hW]; simp [go_sem]) h
  have d3 : ∀ W', Ext W W' → W'.cell? ⟨w.heap.size + 1, 3, none⟩ = some (.int .i64 hi) := fun W' h => Ext.old (by rw [← hW]; simp [go_sem]) h
  have HN := Lib.hid (hn.ext hx)
  clear hn
  by_cases hnet : netOk n = true
  · have hcall : ∀ W', Ext W W' → Calls Try.prog 33 #[vNt n A c] W' fun e w' => e = .returned (.int .i64 0) ∧ Ext W' w' := fun W' h => (ref01_Check n A B C c W' (HN.out.ext h)).mono (fun e w' ⟨he, hh⟩ => ⟨by rw [he, hnet]; rfl, hh⟩)
    have HC := Lib.hid hcall
    have HNet := Lib.hid hnet
    clear hcall hnet
    by_cases hp : partyOk ⟨grade, load, ⟨lo, hi⟩⟩ = true
    · have HP := Lib.hid hp
      simp only [partyOk, Bool.and_eq_true] at hp
      obtain ⟨⟨o1, o2⟩, o3⟩ := hp
      go_enter Try.func19, Try.ntmps19
      go_wp2_with (first
        | (go_at_call 33; refine (HC.out _ (by first | exact Ext.refl _ | assumption)).mono ?_; rintro e w1 ⟨rfl, hy1⟩)
        | (go_at_call 36; refine (ref01_within _ _ _ _).mono ?_; rintro e w1 ⟨rfl, rfl⟩)
        | (go_at_call 53; refine (ref01_isSpan ⟨_, _⟩ _ _ _).mono ?_; rintro e w2 ⟨rfl, hy2⟩; have hz1 : Ext W w2 := Ext.trans (by first | exact Ext.refl _ | assumption) hy2))
      go_ret
      exact ⟨ret_int (by rw [npErr, HNet.out, HP.out]; rfl), hx.trans (by first | assumption | exact Ext.refl _)⟩
    · have hp' : partyOk ⟨grade, load, ⟨lo, hi⟩⟩ = false := by simpa using hp
      have HP := Lib.hid hp'
      clear hp hp'
      go_enter Try.func19, Try.ntmps19
      go_wp2_with (first
        | (go_at_call 33; refine (HC.out _ (by first | exact Ext.refl _ | assumption)).mono ?_; rintro e w1 ⟨rfl, hy1⟩)
        | (go_at_call 36; refine (ref01_within _ _ _ _).mono ?_; rintro e w1 ⟨rfl, rfl⟩)
        | (go_at_call 53; refine (ref01_isSpan ⟨_, _⟩ _ _ _).mono ?_; rintro e w2 ⟨rfl, hy2⟩; have hz1 : Ext W w2 := Ext.trans (by first | exact Ext.refl _ | assumption) hy2))
      all_goals go_ret
      all_goals refine ⟨ret_int ?_, hx.trans (by first | assumption | exact Ext.refl _)⟩
      all_goals rw [npErr, HNet.out, HP.out]
      all_goals first
        | rfl
        | (exfalso
           have hp := HP.out
           simp_all [partyOk])
  · have hnet' : netOk n = false := by simpa using hnet
    have hcall : ∀ W', Ext W W' → Calls Try.prog 33 #[vNt n A c] W' fun e w' => e = .returned (.int .i64 10) ∧ Ext W' w' := fun W' h => (ref01_Check n A B C c W' (HN.out.ext h)).mono (fun e w' ⟨he, hh⟩ => ⟨by rw [he, hnet']; rfl, hh⟩)
    have HC := Lib.hid hcall
    have HNet := Lib.hid hnet'
    clear hcall hnet hnet'
    go_enter Try.func19, Try.ntmps19
    go_wp2_with (first
      | (go_at_call 33; refine (HC.out _ (by first | exact Ext.refl _ | assumption)).mono ?_; rintro e w1 ⟨rfl, hy1⟩))
    go_ret
    exact ⟨ret_int (by simp [npErr, HNet.out]), hx.trans hy1⟩

set_option maxHeartbeats 1000000 in
theorem paths_check (n : Nt) (p : Pty) (A : Option Addr) (B : Nat → Option Addr) (C : Nat → Nat) (c : Nat) (w : World) (hn : Pths w A B C n.paths) :
    Calls Try.prog 59 #[vNt n A c, vPty p] w fun e w' => e = .returned (.tuple #[vWalk n p A c, .int .i64 (npErr n p)]) ∧ Ext w w' := by
  obtain ⟨grade, load, ⟨lo, hi⟩⟩ := p
  dsimp only [vNt, vPty, vWalk]
  obtain ⟨W, hW⟩ : ∃ W, (((w.alloc (.cells #[.int .i64 n.places, .slice A n.paths.length c] 24)).alloc (.cells #[.int .i64 grade, .int .i64 load, .int .i64 lo, .int .i64 hi] 28)).alloc (.cells #[.int .i64 0, .slice none 0 0, .int .i64 0, .int .i64 0, .int .i64 0, .int .i64 0] 74)).alloc (.cells #[.int .i64 n.places, .slice A n.paths.length c, .int .i64 grade, .int .i64 load, .int .i64 lo, .int .i64 hi] 74) = W := ⟨_, rfl⟩
  have hx : Ext w W := hW ▸ ((((Ext.refl w).alloc _).alloc _).alloc _).alloc _
  have b : ∀ W' j, Ext W W' → W'.cell? ⟨w.heap.size, j, none⟩ = (#[.int .i64 n.places, .slice A n.paths.length c] : Array Value)[j]? := fun W' j h => by rw [h.cell (by rw [← hW]; simp only [World.size_alloc]; omega), ← hW]; simp [go_sem]
  have d : ∀ W' j, Ext W W' → W'.cell? ⟨w.heap.size + 1, j, none⟩ = (#[.int .i64 grade, .int .i64 load, .int .i64 lo, .int .i64 hi] : Array Value)[j]? := fun W' j h => by rw [h.cell (by rw [← hW]; simp only [World.size_alloc]; omega), ← hW]; simp [go_sem]
  have g : ∀ W' j, Ext W W' → W'.cell? ⟨w.heap.size + 1 + 1, j, none⟩ = (#[.int .i64 0, .slice none 0 0, .int .i64 0, .int .i64 0, .int .i64 0, .int .i64 0] : Array Value)[j]? := fun W' j h => by rw [h.cell (by rw [← hW]; simp only [World.size_alloc]; omega), ← hW]; simp [go_sem]
  have k : ∀ W' j, Ext W W' → W'.cell? ⟨w.heap.size + 1 + 1 + 1, j, none⟩ = (#[.int .i64 n.places, .slice A n.paths.length c, .int .i64 grade, .int .i64 load, .int .i64 lo, .int .i64 hi] : Array Value)[j]? := fun W' j h => by rw [h.cell (by rw [← hW]; simp only [World.size_alloc]; omega), ← hW]; simp [go_sem]
  have gf : ∀ W' j, Ext W W' → W'.frozen? ⟨w.heap.size + 1 + 1, j, none⟩ = false := fun W' j h => Ext.froz (by rw [← hW]; simp) (by rw [← hW]; simp [go_sem]) h
  have hs : w.heap.size + 1 + 1 + 1 < W.heap.size := by rw [← hW]; simp
  have HN := Lib.hid (hn.ext hx)
  clear hn
  by_cases hnet : netOk n = true
  · have hcall : ∀ W', Ext W W' → Calls Try.prog 75 #[vNt n A c] W' fun e w' => e = .returned (.int .i64 0) ∧ Ext W' w' := fun W' h => (paths_Check n A B C c W' (HN.out.ext h)).mono (fun e w' ⟨he, hh⟩ => ⟨by rw [he, hnet]; rfl, hh⟩)
    have HC := Lib.hid hcall
    have HNet := Lib.hid hnet
    clear hcall hnet
    by_cases hp : partyOk ⟨grade, load, ⟨lo, hi⟩⟩ = true
    · have HP := Lib.hid hp
      simp only [partyOk, Bool.and_eq_true] at hp
      obtain ⟨⟨o1, o2⟩, o3⟩ := hp
      go_enter Try.func59, Try.ntmps59
      go_wp2_with (first
        | (go_at_call 75; refine (HC.out _ (by first | exact Ext.refl _ | assumption)).mono ?_; rintro e w1 ⟨rfl, hy1⟩)
        | (go_at_call 62; refine (paths_within _ _ _ _).mono ?_; rintro e w1 ⟨rfl, rfl⟩)
        | (go_at_call 77; refine (paths_ordered ⟨_, _⟩ _ _ _).mono ?_; rintro e w2 ⟨rfl, hy2⟩; have hz1 : Ext W w2 := Ext.trans (by first | exact Ext.refl _ | assumption) hy2))
      refine bodyPost_ret (v := .tuple #[.agg #[.int .i64 n.places, .slice A n.paths.length c, .int .i64 grade, .int .i64 load, .int .i64 lo, .int .i64 hi], .int .i64 (npErr n ⟨grade, load, ⟨lo, hi⟩⟩)]) ?_ rfl ⟨rfl, Ext.sets6 hx (by first | assumption | exact Ext.refl _) (by omega)⟩
      rw [npErr, HNet.out, HP.out]
      simp [results, Try.results59, go_sem, g, hz1]
    · have hp' : partyOk ⟨grade, load, ⟨lo, hi⟩⟩ = false := by simpa using hp
      have HP := Lib.hid hp'
      clear hp hp'
      go_enter Try.func59, Try.ntmps59
      go_wp2_with (first
        | (go_at_call 75; refine (HC.out _ (by first | exact Ext.refl _ | assumption)).mono ?_; rintro e w1 ⟨rfl, hy1⟩)
        | (go_at_call 62; refine (paths_within _ _ _ _).mono ?_; rintro e w1 ⟨rfl, rfl⟩)
        | (go_at_call 77; refine (paths_ordered ⟨_, _⟩ _ _ _).mono ?_; rintro e w2 ⟨rfl, hy2⟩; have hz1 : Ext W w2 := Ext.trans (by first | exact Ext.refl _ | assumption) hy2))
      all_goals (
        refine bodyPost_ret (v := .tuple #[.agg #[.int .i64 n.places, .slice A n.paths.length c, .int .i64 grade, .int .i64 load, .int .i64 lo, .int .i64 hi], .int .i64 (npErr n ⟨grade, load, ⟨lo, hi⟩⟩)]) ?_ rfl ⟨rfl, Ext.sets6 hx (by first | assumption | exact Ext.refl _) (by omega)⟩
        rw [npErr, HNet.out, HP.out]
        first
          | (simp [results, Try.results59, go_sem, g, *]; done)
          | (exfalso
             have hp := HP.out
             simp_all [partyOk]))
  · have hnet' : netOk n = false := by simpa using hnet
    have hcall : ∀ W', Ext W W' → Calls Try.prog 75 #[vNt n A c] W' fun e w' => e = .returned (.int .i64 10) ∧ Ext W' w' := fun W' h => (paths_Check n A B C c W' (HN.out.ext h)).mono (fun e w' ⟨he, hh⟩ => ⟨by rw [he, hnet']; rfl, hh⟩)
    have HC := Lib.hid hcall
    have HNet := Lib.hid hnet'
    clear hcall hnet hnet'
    go_enter Try.func59, Try.ntmps59
    go_wp2_with (first
      | (go_at_call 75; refine (HC.out _ (by first | exact Ext.refl _ | assumption)).mono ?_; rintro e w1 ⟨rfl, hy1⟩))
    refine bodyPost_ret (v := .tuple #[.agg #[.int .i64 n.places, .slice A n.paths.length c, .int .i64 grade, .int .i64 load, .int .i64 lo, .int .i64 hi], .int .i64 (npErr n ⟨grade, load, ⟨lo, hi⟩⟩)]) ?_ rfl ⟨rfl, Ext.sets6 hx (by first | assumption | exact Ext.refl _) (by omega)⟩
    rw [npErr, HNet.out]
    simp [results, Try.results59, go_sem, g, hy1]
end Go.Proofs.Ytnjlpkdpmbpblaa
namespace Go.Proofs.Ytnjlpkdpmbpblaa
open Go.RowKit Go.Shelf

set_option maxHeartbeats 400000 in
theorem paths_open1 (x places : Int) (b : Nat) (w : World) (hb : w.cell? ⟨b, 0, none⟩ = some (.int .i64 places)) (h1 : 1 ≤ places) (h2 : places ≤ 12) :
    Calls Try.prog 61 #[.int .i64 x, .pointer (some ⟨b, 0, none⟩)] w fun e w' => e = .returned (.bool (!within x 0 (places - 1))) ∧ w = w' := by
  go_enter Try.func61, Try.ntmps61
  go_wp2_with (go_at_call 62; refine (paths_within _ _ _ _).mono ?_; rintro e w1 ⟨rfl, rfl⟩)
  go_ret
  exact ⟨rfl, rfl⟩
set_option maxHeartbeats 400000 in
theorem paths_open2 (x : Int) (w : World) :
    Calls Try.prog 63 #[.int .i64 x] w fun e w' => e = .returned (.bool (!within x 0 2880)) ∧ w = w' := by
  go_enter Try.func63, Try.ntmps63
  go_wp2_with (go_at_call 62; refine (paths_within _ _ _ _).mono ?_; rintro e w1 ⟨rfl, rfl⟩)
  go_ret
  exact ⟨rfl, rfl⟩
theorem enters_open1 : ∀ args w, (callFunc 61 args).run Try.prog w = .ok (.enter 61 args) w := enters_of Try.func61 (by kernel_rfl) rfl
theorem enters_open2 : ∀ args w, (callFunc 63 args).run Try.prog w = .ok (.enter 63 args) w := enters_of Try.func63 (by kernel_rfl) rfl

def askErr (n : Nt) (p : Pty) (ps ms : List Int) : Int :=
  if npErr n p = 0 then (if (ps.all fun x => within x 0 (n.places - 1)) && (ms.all fun x => within x 0 2880) then 0 else 1) else npErr n p

set_option maxHeartbeats 1000000 in
theorem paths_open (n : Nt) (p : Pty) (A : Option Addr) (B : Nat → Option Addr) (C : Nat → Nat) (c : Nat) (Ap Am : Option Addr) (cp cm : Nat) (ps ms : List Int) (w : World) (hn : Pths w A B C n.paths) (hps : Ints w Ap ps) (hms : Ints w Am ms)
    (l1 : ps.length ≤ 1000) (l2 : ms.length ≤ 1000) :
    Calls Try.prog 27 #[vNt n A c, vPty p, .agg #[.slice Ap ps.length cp, .slice Am ms.length cm]] w fun e w' => e = .returned (.tuple #[vWalk n p A c, .int .i64 (askErr n p ps ms)]) ∧ Ext w w' := by
  dsimp only [vNt, vPty, vWalk]
  obtain ⟨W, hW⟩ : ∃ W, (((w.alloc (.cells #[.int .i64 n.places, .slice A n.paths.length c] 24)).alloc (.cells #[.int .i64 p.grade, .int .i64 p.load, .int .i64 p.pace.lo, .int .i64 p.pace.hi] 28)).alloc (.cells #[.slice Ap ps.length cp, .slice Am ms.length cm] 78)).alloc (.cells #[.int .i64 0, .slice none 0 0, .int .i64 0, .int .i64 0, .int .i64 0, .int .i64 0] 74) = W := ⟨_, rfl⟩
  have hx : Ext w W := hW ▸ ((((Ext.refl w).alloc _).alloc _).alloc _).alloc _
  have b : ∀ W9 j, Ext W W9 → W9.cell? ⟨w.heap.size, j, none⟩ = (#[.int .i64 n.places, .slice A n.paths.length c] : Array Value)[j]? := fun W9 j h => by rw [h.cell (by rw [← hW]; simp only [World.size_alloc]; omega), ← hW]; simp [go_sem]
  have d : ∀ W9 j, Ext W W9 → W9.cell? ⟨w.heap.size + 1, j, none⟩ = (#[.int .i64 p.grade, .int .i64 p.load, .int .i64 p.pace.lo, .int .i64 p.pace.hi] : Array Value)[j]? := fun W9 j h => by rw [h.cell (by rw [← hW]; simp only [World.size_alloc]; omega), ← hW]; simp [go_sem]
  have q : ∀ W9 j, Ext W W9 → W9.cell? ⟨w.heap.size + 1 + 1, j, none⟩ = (#[.slice Ap ps.length cp, .slice Am ms.length cm] : Array Value)[j]? := fun W9 j h => by rw [h.cell (by rw [← hW]; simp only [World.size_alloc]; omega), ← hW]; simp [go_sem]
  have g : ∀ W9 j, Ext W W9 → W9.cell? ⟨w.heap.size + 1 + 1 + 1, j, none⟩ = (#[.int .i64 0, .slice none 0 0, .int .i64 0, .int .i64 0, .int .i64 0, .int .i64 0] : Array Value)[j]? := fun W9 j h => by rw [h.cell (by rw [← hW]; simp only [World.size_alloc]; omega), ← hW]; simp [go_sem]
  have gf : ∀ W' j, Ext W W' → W'.frozen? ⟨w.heap.size + 1 + 1 + 1, j, none⟩ = false := fun W' j h => Ext.froz (by rw [← hW]; simp) (by rw [← hW]; simp [go_sem]) h
  have hs : w.heap.size + 1 + 1 + 1 < W.heap.size := by rw [← hW]; simp
  have hcall := paths_check n p A B C c W (hn.ext hx)
  have HC := Lib.hid hcall
  have HP := Lib.hid hps
  have HM := Lib.hid hms
  clear hcall hn hps hms
  by_cases hne : npErr n p = 0
  · rw [hne] at HC
    have hok := (npErr_zero.1 hne).1
    obtain ⟨⟨n1, n2⟩, _⟩ := netOk_iff.1 hok
    have HNE := Lib.hid hne
    clear hne hok
    go_enter Try.func27, Try.ntmps27
    go_wp2_with fail
    refine (HC.out).mono ?_
    rintro e w1 ⟨rfl, hy1⟩
    dsimp only [vWalk]
    obtain ⟨W2, hW2⟩ : ∃ W2, w1.alloc (.cells #[.int .i64 n.places, .slice A n.paths.length c, .int .i64 p.grade, .int .i64 p.load, .int .i64 p.pace.lo, .int .i64 p.pace.hi] 74) = W2 := ⟨_, rfl⟩
    have hx2 : Ext W W2 := hW2 ▸ hy1.alloc _
    have k : ∀ W9 j, Ext W2 W9 → W9.cell? ⟨w1.heap.size, j, none⟩ = (#[.int .i64 n.places, .slice A n.paths.length c, .int .i64 p.grade, .int .i64 p.load, .int .i64 p.pace.lo, .int .i64 p.pace.hi] : Array Value)[j]? := fun W9 j h => by rw [h.cell (by rw [← hW2]; simp only [World.size_alloc]; omega), ← hW2]; simp [go_sem]
    have b00 : W2.cell? ⟨w.heap.size, 0, none⟩ = some (.int .i64 n.places) := by rw [b W2 0 hx2]; rfl
    have hxx : Ext w W2 := hx.trans hx2
    have c1 := containsFunc_Int Ap ps.length cp _ 61 #[.pointer (some ⟨w.heap.size, 0, none⟩)] (fun k => !within (nth ps k) 0 (n.places - 1)) W2 ((HP.out).ext hxx) (by omega) enters_open1
      (fun k hk W' hW' => (paths_open1 (nth ps k) n.places w.heap.size W' (Ext.old b00 hW') n1 n2).mono (fun e w' ⟨he, hh⟩ => ⟨he, hh ▸ Ext.refl _⟩))
    have e1 : anyTo (fun k => !within (nth ps k) 0 (n.places - 1)) ps.length = !ps.all fun x => within x 0 (n.places - 1) := anyTo_not_all ps fun x => within x 0 (n.places - 1)
    rw [e1] at c1
    clear e1 b00
    have C1 := Lib.hid c1
    clear c1
    have c2 : ∀ W', Ext W2 W' → Calls Try.prog 60 #[.slice Am ms.length cm, .func (.func 63) #[] #[]] W' fun e w' => e = .returned (.bool (!ms.all fun x => within x 0 2880)) ∧ Ext W' w' := fun W' hW' => by
      have c3 := containsFunc_Int Am ms.length cm _ 63 #[] (fun k => !within (nth ms k) 0 2880) W' ((HM.out).ext (hxx.trans hW')) (by omega) enters_open2
        (fun k hk W9 hW9 => (by rw [Array.append_empty]; exact (paths_open2 (nth ms k) W9).mono (fun e w' ⟨he, hh⟩ => ⟨he, hh ▸ Ext.refl _⟩)))
      have e1 : anyTo (fun k => !within (nth ms k) 0 2880) ms.length = !ms.all fun x => within x 0 2880 := anyTo_not_all ms fun x => within x 0 2880
      rw [e1] at c3
      exact c3
    have C2 := Lib.hid c2
    clear c2
    have hA : askErr n p ps ms = if (ps.all fun x => within x 0 (n.places - 1)) && (ms.all fun x => within x 0 2880) then 0 else 1 := by rw [askErr, if_pos HNE.out]
    have HA := Lib.hid hA
    clear hA
    go_wp2_with fail
    refine (C1.out).mono ?_
    rintro e w2 ⟨rfl, hy2⟩
    have hz2 : Ext W w2 := hx2.trans hy2
    by_cases a1 : (ps.all fun x => within x 0 (n.places - 1)) = true
    · rw [a1] at HA ⊢
      clear a1
      go_wp2_with fail
      refine (C2.out _ hy2).mono ?_
      rintro e w3 ⟨rfl, hy3⟩
      have hy3' : Ext W2 w3 := hy2.trans hy3
      have hz3 : Ext W w3 := hz2.trans hy3
      by_cases a2 : (ms.all fun x => within x 0 2880) = true
      · rw [a2] at HA ⊢
        clear a2
        go_wp2
        refine bodyPost_ret (v := .tuple #[.agg #[.int .i64 n.places, .slice A n.paths.length c, .int .i64 p.grade, .int .i64 p.load, .int .i64 p.pace.lo, .int .i64 p.pace.hi], .int .i64 (askErr n p ps ms)]) ?_ rfl ⟨rfl, Ext.sets6 hx (by first | assumption | exact Ext.refl _) (by omega)⟩
        rw [HA.out]
        simp [results, Try.results27, go_sem, g, hz3]
      · have a2' : (ms.all fun x => within x 0 2880) = false := by simpa using a2
        rw [a2'] at HA ⊢
        clear a2 a2'
        go_wp2
        refine bodyPost_ret (v := .tuple #[.agg #[.int .i64 n.places, .slice A n.paths.length c, .int .i64 p.grade, .int .i64 p.load, .int .i64 p.pace.lo, .int .i64 p.pace.hi], .int .i64 (askErr n p ps ms)]) ?_ rfl ⟨rfl, Ext.sets6 hx (by first | assumption | exact Ext.refl _) (by omega)⟩
        rw [HA.out]
        simp [results, Try.results27, go_sem, g, hz3]
    · have a1' : (ps.all fun x => within x 0 (n.places - 1)) = false := by simpa using a1
      rw [a1'] at HA ⊢
      clear a1 a1'
      go_wp2
      refine bodyPost_ret (v := .tuple #[.agg #[.int .i64 n.places, .slice A n.paths.length c, .int .i64 p.grade, .int .i64 p.load, .int .i64 p.pace.lo, .int .i64 p.pace.hi], .int .i64 (askErr n p ps ms)]) ?_ rfl ⟨rfl, Ext.sets6 hx (by first | assumption | exact Ext.refl _) (by omega)⟩
      rw [HA.out]
      simp [results, Try.results27, go_sem, g, hz2]
  · have hA : askErr n p ps ms = npErr n p := by rw [askErr, if_neg hne]
    have hne2 : (npErr n p != 0) = true := by simpa using hne
    have HA := Lib.hid hA
    clear hA hne
    go_enter Try.func27, Try.ntmps27
    go_wp2_with fail
    refine (HC.out).mono ?_
    rintro e w1 ⟨rfl, hy1⟩
    dsimp only [vWalk]
    obtain ⟨W2, hW2⟩ : ∃ W2, w1.alloc (.cells #[.int .i64 n.places, .slice A n.paths.length c, .int .i64 p.grade, .int .i64 p.load, .int .i64 p.pace.lo, .int .i64 p.pace.hi] 74) = W2 := ⟨_, rfl⟩
    have hx2 : Ext W W2 := hW2 ▸ hy1.alloc _
    have k : ∀ W9 j, Ext W2 W9 → W9.cell? ⟨w1.heap.size, j, none⟩ = (#[.int .i64 n.places, .slice A n.paths.length c, .int .i64 p.grade, .int .i64 p.load, .int .i64 p.pace.lo, .int .i64 p.pace.hi] : Array Value)[j]? := fun W9 j h => by rw [h.cell (by rw [← hW2]; simp only [World.size_alloc]; omega), ← hW2]; simp [go_sem]
    go_wp2
    refine bodyPost_ret (v := .tuple #[.agg #[.int .i64 n.places, .slice A n.paths.length c, .int .i64 p.grade, .int .i64 p.load, .int .i64 p.pace.lo, .int .i64 p.pace.hi], .int .i64 (askErr n p ps ms)]) ?_ rfl ⟨rfl, Ext.sets6 hx (by first | assumption | exact Ext.refl _) (by omega)⟩
    rw [HA.out]
    simp [results, Try.results27, go_sem, g, hx2]
end Go.Proofs.Ytnjlpkdpmbpblaa
namespace Go.Proofs.Ytnjlpkdpmbpblaa
open Go.RowKit
@[go_sem] theorem ext_alloc2_t {a w : World} (o1 o2 : Obj) (h : Ext a w) : Ext a ((w.alloc o1).alloc o2) = True := eq_true ((Ext.alloc h o1).alloc o2)
@[go_sem] theorem ext_alloc3_t {a w : World} (o1 o2 o3 : Obj) (h : Ext a w) : Ext a (((w.alloc o1).alloc o2).alloc o3) = True := eq_true (((Ext.alloc h o1).alloc o2).alloc o3)
@[go_sem] theorem ext_alloc4_t {a w : World} (o1 o2 o3 o4 : Obj) (h : Ext a w) : Ext a ((((w.alloc o1).alloc o2).alloc o3).alloc o4) = True := eq_true ((((Ext.alloc h o1).alloc o2).alloc o3).alloc o4)
@[go_sem] theorem ext_alloc_drewN_t {a w : World} (o1 : Obj) (n : Nat) (h : Ext a w) : Ext a ((w.alloc o1).drewN n) = True := eq_true ((Ext.alloc h o1).drewN n)
@[go_sem] theorem ext_alloc2_drewN_t {a w : World} (o1 o2 : Obj) (n : Nat) (h : Ext a w) : Ext a (((w.alloc o1).alloc o2).drewN n) = True := eq_true (((Ext.alloc h o1).alloc o2).drewN n)
@[go_sem] theorem ext_alloc3_drewN_t {a w : World} (o1 o2 o3 : Obj) (n : Nat) (h : Ext a w) : Ext a ((((w.alloc o1).alloc o2).alloc o3).drewN n) = True := eq_true ((((Ext.alloc h o1).alloc o2).alloc o3).drewN n)
@[go_sem] theorem ext_alloc_drew_t {a w : World} (o1 : Obj) (h : Ext a w) : Ext a (w.alloc o1).drew = True := eq_true (Ext.alloc h o1).drew
@[go_sem] theorem ext_alloc2_drew_t {a w : World} (o1 o2 : Obj) (h : Ext a w) : Ext a ((w.alloc o1).alloc o2).drew = True := eq_true ((Ext.alloc h o1).alloc o2).drew
end Go.Proofs.Ytnjlpkdpmbpblaa
namespace Go.Proofs.Ytnjlpkdpmbpblaa
open Go.RowKit Go.Shelf

set_option maxHeartbeats 400000 in
theorem paths_can (n : Nt) (p : Pty) (A : Option Addr) (B : Nat → Option Addr) (C : Nat → Nat) (c : Nat) (i : Nat) (w : World) (hn : Pths w A B C n.paths) (hi : i < n.paths.length) :
    Calls Try.prog 66 #[vWalk n p A c, .int .i64 i] w fun e w' => e = .returned (.bool (decide ((nth n.paths i).grade ≤ p.grade))) ∧ Ext w w' := by
  dsimp only [vWalk]
  obtain ⟨W, hW⟩ : ∃ W, w.alloc (.cells #[.int .i64 n.places, .slice A n.paths.length c, .int .i64 p.grade, .int .i64 p.load, .int .i64 p.pace.lo, .int .i64 p.pace.hi] 74) = W := ⟨_, rfl⟩
  have hx : Ext w W := hW ▸ (Ext.refl w).alloc _
  have k : ∀ W9 j, Ext W W9 → W9.cell? ⟨w.heap.size, j, none⟩ = (#[.int .i64 n.places, .slice A n.paths.length c, .int .i64 p.grade, .int .i64 p.load, .int .i64 p.pace.lo, .int .i64 p.pace.hi] : Array Value)[j]? := fun W9 j h => by rw [h.cell (by rw [← hW]; simp only [World.size_alloc]; omega), ← hW]; simp [go_sem]
  obtain ⟨pA, ⟨c0, c1, c2, c3, c4, c5, c6, c7⟩⟩ := (hn.ext hx).at_ hi
  clear hn
  go_enter Try.func66, Try.ntmps66
  go_wp2
  go_quiet (fail)
  go_wp2
  go_ret
  exact ⟨rfl, hx.drewN _⟩

theorem mul_bd {a b m k : Int} (a0 : 0 ≤ a) (b0 : 0 ≤ b) (ha : a ≤ m) (hb : b ≤ k) : 0 ≤ a * b ∧ a * b ≤ m * k := ⟨Int.mul_nonneg a0 b0, Int.mul_le_mul ha hb b0 (by omega)⟩
set_option maxHeartbeats 400000 in
theorem paths_span1 (t pace snow load : Int) (b : Nat) (w : World) (hb : w.cell? ⟨b, 3, none⟩ = some (.int .i64 load)) (ht : 1 ≤ t ∧ t ≤ 600) (hp : 50 ≤ pace ∧ pace ≤ 300) (hs : 0 ≤ snow ∧ snow ≤ 30) (hl : 0 ≤ load ∧ load ≤ 40) :
    Calls Try.prog 67 #[.int .i64 t, .int .i64 pace, .int .i64 snow, .pointer (some ⟨b, 0, none⟩)] w fun e w' => e = .returned (.int .i64 (timeOf t pace snow load)) ∧ w' = w := by
  obtain ⟨ht1, ht2⟩ := ht
  obtain ⟨hp1, hp2⟩ := hp
  obtain ⟨hs1, hs2⟩ := hs
  obtain ⟨hl1, hl2⟩ := hl
  obtain ⟨m1, m2⟩ := mul_bd (a := t) (b := pace) (m := 600) (k := 300) (by omega) (by omega) ht2 hp2
  obtain ⟨m3, m4⟩ := mul_bd (a := t * pace) (b := 100 + 5 * snow + load) (m := 180000) (k := 290) (by omega) (by omega) (by omega) (by omega)
  have M4 : t * pace * (100 + 5 * snow + load) ≤ 52200000 := by omega
  clear m4
  go_enter Try.func67, Try.ntmps67
  go_wp2
  go_ret
  exact ⟨rfl, rfl⟩

set_option maxRecDepth 100000 in
set_option maxHeartbeats 1000000 in
theorem paths_span (n : Nt) (p : Pty) (A : Option Addr) (B : Nat → Option Addr) (C : Nat → Nat) (c : Nat) (i : Nat) (w : World) (hn : Pths w A B C n.paths) (hi : i < n.paths.length) (hok : netOk n = true) (hpk : partyOk p = true) :
    Calls Try.prog 45 #[vWalk n p A c, .int .i64 i] w fun e w' => e = .returned (vSpn (spanOf p (nth n.paths i))) ∧ Ext w w' := by
  dsimp only [vWalk, vSpn]
  obtain ⟨_, _, hall⟩ := netOk_iff.1 hok
  obtain ⟨_, _, _, _, ⟨t1, t2, t3⟩, ⟨s1, s2, s3⟩, _, _⟩ := pathOk_iff.1 (hall _ (nth_mem hi))
  obtain ⟨_, ⟨q1, q2, q3⟩, ⟨l1, l2⟩⟩ := partyOk_iff.1 hpk
  obtain ⟨W, hW⟩ : ∃ W, ((w.alloc (.cells #[.int .i64 n.places, .slice A n.paths.length c, .int .i64 p.grade, .int .i64 p.load, .int .i64 p.pace.lo, .int .i64 p.pace.hi] 74)).alloc (.cells #[.int .i64 0, .int .i64 0] 26)).alloc
     (.cells (#[.int .i64 (nth n.paths i).frm, .int .i64 (nth n.paths i).dst, .int .i64 (nth n.paths i).grade, .int .i64 (nth n.paths i).time.lo, .int .i64 (nth n.paths i).time.hi, .int .i64 (nth n.paths i).snow.lo, .int .i64 (nth n.paths i).snow.hi, .slice (B i) (nth n.paths i).opens.length (C i)]) 34) = W := ⟨_, rfl⟩
  have hx : Ext w W := hW ▸ (((Ext.refl w).alloc _).alloc _).alloc _
  have k : ∀ W9 j, Ext W W9 → W9.cell? ⟨w.heap.size, j, none⟩ = (#[.int .i64 n.places, .slice A n.paths.length c, .int .i64 p.grade, .int .i64 p.load, .int .i64 p.pace.lo, .int .i64 p.pace.hi] : Array Value)[j]? := fun W9 j h => by rw [h.cell (by rw [← hW]; simp only [World.size_alloc]; omega), ← hW]; simp [go_sem]
  have g : ∀ W9 j, Ext W W9 → W9.cell? ⟨w.heap.size + 1, j, none⟩ = (#[.int .i64 0, .int .i64 0] : Array Value)[j]? := fun W9 j h => by rw [h.cell (by rw [← hW]; simp only [World.size_alloc]; omega), ← hW]; simp [go_sem]
  have q : ∀ W9 j, Ext W W9 → W9.cell? ⟨w.heap.size + 1 + 1, j, none⟩ = (#[.int .i64 (nth n.paths i).frm, .int .i64 (nth n.paths i).dst, .int .i64 (nth n.paths i).grade, .int .i64 (nth n.paths i).time.lo, .int .i64 (nth n.paths i).time.hi, .int .i64 (nth n.paths i).snow.lo, .int .i64 (nth n.paths i).snow.hi, .slice (B i) (nth n.paths i).opens.length (C i)] : Array Value)[j]? := fun W9 j h => by rw [h.cell (by rw [← hW]; simp only [World.size_alloc]; omega), ← hW]; simp [go_sem]
  obtain ⟨pA, ⟨c0, c1, c2, c3, c4, c5, c6, c7⟩⟩ := hn.at_ hi
  clear hn hok hpk hall
  go_enter Try.func45, Try.ntmps45
  go_wp2
  refine wp_region_still_tail 25 (by kernel_rfl) (by kernel_rfl) ?_
  simp only [List.take_succ_cons, List.take_zero, List.drop_succ_cons, List.drop_zero]
  change wpStill _ _ W.drew (fun a' => wpList _ _ _ _ a' W.drew) _ _
  have hv : Ext W W.drew := (Ext.refl W).drew
  have hsz : w.heap.size + 1 < W.heap.size := by rw [← hW]; simp
  have hgf : ∀ j, W.frozen? ⟨w.heap.size + 1, j, none⟩ = false := fun j => by rw [← hW]; simp [go_sem]
  generalize W.drew = V at *
  clear hW
  have gz : ∀ j, V.frozen? ⟨w.heap.size + 1, j, none⟩ = false := fun j => Ext.froz hsz (hgf j) hv
  have hsp1 := paths_span1 (nth n.paths i).time.lo p.pace.lo (nth n.paths i).snow.lo p.load w.heap.size V (by rw [k V 3 hv]; rfl) ⟨t1, by omega⟩ ⟨q1, by omega⟩ ⟨s1, by omega⟩ ⟨l1, l2⟩
  have hsp2 := paths_span1 (nth n.paths i).time.hi p.pace.hi (nth n.paths i).snow.hi p.load w.heap.size V (by rw [k V 3 hv]; rfl) ⟨by omega, t3⟩ ⟨by omega, q3⟩ ⟨by omega, s3⟩ ⟨l1, l2⟩
  have H1 := Lib.hid hsp1
  have H2 := Lib.hid hsp2
  clear hsp1 hsp2
  repeat still_step
  still_call H1.out
  repeat still_step
  still_call H2.out
  repeat still_step
  refine wpStill_nil ?_
  go_wp2
  refine bodyPost_ret (v := .agg #[.int .i64 (spanOf p (nth n.paths i)).lo, .int .i64 (spanOf p (nth n.paths i)).hi]) ?_ rfl ⟨rfl, ((hx.trans hv).setCell (by simp) _).setCell (by simp) _⟩
  simp [results, Try.results45, go_sem, g, hv, spanOf]

theorem int_val {k : IntKind} {a b : Int} (h : a = b) : Value.int k a = Value.int k b := by rw [h]
theorem take_nth {α : Type} [Inhabited α] {l : List α} {k : Nat} (h : k < l.length) : l.take (k + 1) = l.take k ++ [nth l k] := by
  rw [List.take_succ_eq_append_getElem h, nth_eq h]
theorem enter_ge (l : List Spn) {a e : Int} (h : a ≤ e) : a ≤ l.foldl (enterStep a) e := by
  induction l generalizing e with
  | nil => exact h
  | cons s l ih =>
    rw [List.foldl_cons]
    apply ih
    unfold enterStep
    split <;> omega
theorem enter_le (l : List Spn) (a e : Int) : l.foldl (enterStep a) e ≤ e := by
  induction l generalizing e with
  | nil => exact Int.le_refl _
  | cons s l ih =>
    rw [List.foldl_cons]
    refine Int.le_trans (ih _) ?_
    unfold enterStep
    split <;> omega
def enterTo (l : List Spn) (a : Int) (k : Nat) : Int := (l.take k).foldl (enterStep a) neverN
theorem enterTo_succ {l : List Spn} {a : Int} {k : Nat} (h : k < l.length) : enterTo l a (k + 1) = enterStep a (enterTo l a k) (nth l k) := by
  unfold enterTo
  rw [take_nth h, List.foldl_append]
  rfl
theorem enterTo_all (l : List Spn) (a : Int) : enterTo l a l.length = enterOf l a := by unfold enterTo enterOf; rw [List.take_length]
theorem enterTo_bd (l : List Spn) (a : Int) (k : Nat) (h : a ≤ 1073741824) : a ≤ enterTo l a k ∧ enterTo l a k ≤ 1073741824 := ⟨enter_ge _ h, enter_le _ _ _⟩

theorem time_bd {t pace snow load : Int} (ht : 1 ≤ t ∧ t ≤ 600) (hp : 50 ≤ pace ∧ pace ≤ 300) (hs : 0 ≤ snow ∧ snow ≤ 30) (hl : 0 ≤ load ∧ load ≤ 40) : 0 ≤ timeOf t pace snow load ∧ timeOf t pace snow load ≤ 5220 := by
  obtain ⟨m1, m2⟩ := mul_bd (a := t) (b := pace) (m := 600) (k := 300) (by omega) (by omega) ht.2 hp.2
  obtain ⟨m3, m4⟩ := mul_bd (a := t * pace) (b := 100 + 5 * snow + load) (m := 180000) (k := 290) (by omega) (by omega) (by omega) (by omega)
  unfold timeOf
  omega
theorem spanOf_bd {n : Nt} {p : Pty} (hok : netOk n = true) (hpk : partyOk p = true) {i : Nat} (hi : i < n.paths.length) : 0 ≤ (spanOf p (nth n.paths i)).hi ∧ (spanOf p (nth n.paths i)).hi ≤ 5220 := by
  obtain ⟨_, _, hall⟩ := netOk_iff.1 hok
  obtain ⟨_, _, _, _, ⟨t1, t2, t3⟩, ⟨s1, s2, s3⟩, _, _⟩ := pathOk_iff.1 (hall _ (nth_mem hi))
  obtain ⟨_, ⟨q1, q2, q3⟩, l⟩ := partyOk_iff.1 hpk
  exact time_bd ⟨by omega, t3⟩ ⟨by omega, q3⟩ ⟨by omega, s3⟩ l
theorem spanOf_bdlo {n : Nt} {p : Pty} (hok : netOk n = true) (hpk : partyOk p = true) {i : Nat} (hi : i < n.paths.length) : 0 ≤ (spanOf p (nth n.paths i)).lo ∧ (spanOf p (nth n.paths i)).lo ≤ 5220 := by
  obtain ⟨_, _, hall⟩ := netOk_iff.1 hok
  obtain ⟨_, _, _, _, ⟨t1, t2, t3⟩, ⟨s1, s2, s3⟩, _, _⟩ := pathOk_iff.1 (hall _ (nth_mem hi))
  obtain ⟨_, ⟨q1, q2, q3⟩, l⟩ := partyOk_iff.1 hpk
  exact time_bd ⟨t1, by omega⟩ ⟨q1, by omega⟩ ⟨s1, by omega⟩ l

set_option maxHeartbeats 1000000 in
theorem paths_arrive (n : Nt) (p : Pty) (A : Option Addr) (B : Nat → Option Addr) (C : Nat → Nat) (c : Nat) (i : Nat) (a t : Int) (w : World) (hn : Pths w A B C n.paths) (hi : i < n.paths.length) (hl : (nth n.paths i).opens.length ≤ 6)
    (a1 : -1000000 ≤ a) (a2 : a ≤ 1073741824) (t1 : 0 ≤ t) (t2 : t ≤ 1000000) :
    Calls Try.prog 44 #[vWalk n p A c, .int .i64 i, .int .i64 a, .int .i64 t] w fun e w' => e = .returned (.int .i64 (arriveOf (nth n.paths i) a t)) ∧ Ext w w' := by
  dsimp only [vWalk]
  obtain ⟨W, hW⟩ : ∃ W, w.alloc (.cells #[.int .i64 n.places, .slice A n.paths.length c, .int .i64 p.grade, .int .i64 p.load, .int .i64 p.pace.lo, .int .i64 p.pace.hi] 74) = W := ⟨_, rfl⟩
  have hx : Ext w W := hW ▸ (Ext.refl w).alloc _
  have k : ∀ W9 j, Ext W W9 → W9.cell? ⟨w.heap.size, j, none⟩ = (#[.int .i64 n.places, .slice A n.paths.length c, .int .i64 p.grade, .int .i64 p.load, .int .i64 p.pace.lo, .int .i64 p.pace.hi] : Array Value)[j]? := fun W9 j h => by rw [h.cell (by rw [← hW]; simp only [World.size_alloc]; omega), ← hW]; simp [go_sem]
  obtain ⟨pA, ⟨c0, c1, c2, c3, c4, c5, c6, c7⟩⟩ := (hn.ext hx).at_ hi
  have hop : Spns W (B i) (nth n.paths i).opens := Sl.ext (hn.opens i hi) hx
  have hbd := fun k => enterTo_bd (nth n.paths i).opens a k a2
  have HBD := Lib.hid hbd
  clear hn c0 c1 c2 c3 c4 c5 c6 hbd
  unfold arriveOf
  rw [← enterTo_all]
  generalize (nth n.paths i).opens = l at *
  go_enter Try.func44, Try.ntmps44
  go_wp2
  go_loopw [9, 20] (fun v9 v20 wr => ∃ q : Nat, q ≤ l.length ∧ v20 = .int .i64 q ∧ v9 = .int .i64 (enterTo l a q) ∧ Ext W wr) (fun _ v20 _ => l.length - (intOf v20).toNat)
  case atStart => exact ⟨0, by omega, rfl, rfl, Ext.refl _⟩
  case round =>
    obtain ⟨q, hq, rfl, rfl, hxr⟩ := hrel
    obtain ⟨bd1, bd2⟩ := HBD.out q
    by_cases hlt : q < l.length
    · obtain ⟨pB, ⟨d0, d1⟩⟩ := spns_at hop hlt
      have hS := enterTo_succ (a := a) hlt
      have HS := Lib.hid hS
      clear hS
      by_cases hle : a ≤ (nth l q).hi
      · go_wp2
        refine ⟨⟨q + 1, by omega, by go_num, ?_, hxr.alloc _⟩, by simp [intOf]; omega⟩
        refine int_val ?_
        rw [HS.out, enterStep, if_pos hle]
        (repeat' split) <;> omega
      · have hle' : ¬ a ≤ (nth l q).hi := hle
        go_wp2
        refine ⟨⟨q + 1, by omega, by go_num, ?_, hxr.alloc _⟩, by simp [intOf]; omega⟩
        refine int_val ?_
        rw [HS.out, enterStep, if_neg (by omega)]
    · obtain rfl : q = l.length := by omega
      by_cases hgt : 2880 < enterTo l a l.length + t
      · go_wp2
        go_ret
        exact ⟨rfl, hx.trans hxr⟩
      · go_wp2
        go_ret
        exact ⟨rfl, hx.trans hxr⟩

set_option maxHeartbeats 400000 in
theorem paths_high (s : Spn) (w : World) : Calls Try.prog 30 #[vSpn s] w fun e w' => e = .returned (.int .i64 s.hi) ∧ Ext w w' := by
  obtain ⟨lo, hi⟩ := s
  go_enter Try.func30, Try.ntmps30
  go_wp2
  go_ret
  exact ⟨rfl, (Ext.refl w).alloc _⟩
set_option maxHeartbeats 400000 in
theorem paths_low (s : Spn) (w : World) : Calls Try.prog 31 #[vSpn s] w fun e w' => e = .returned (.int .i64 s.lo) ∧ Ext w w' := by
  obtain ⟨lo, hi⟩ := s
  go_enter Try.func31, Try.ntmps31
  go_wp2
  go_ret
  exact ⟨rfl, (Ext.refl w).alloc _⟩

theorem field_span_hi (x y : Int) (W : World) : (Instr.field 26 (.agg #[.int .i64 x, .int .i64 y]) 1).run Try.prog W = .ok (.int .i64 y) W := by kernel_rfl
/-- the latest minute at the beginning of a path -/
def latestStep (by_ e : Int) (s : Spn) : Int := if s.lo ≤ by_ then max e (min s.hi by_) else e
def latestTo (l : List Spn) (by_ : Int) (k : Nat) : Int := (l.take k).foldl (latestStep by_) (-1)
def latestOf (x : Pth) (by_ : Int) : Int := x.opens.foldl (latestStep by_) (-1)
theorem latestTo_succ {l : List Spn} {a : Int} {k : Nat} (h : k < l.length) : latestTo l a (k + 1) = latestStep a (latestTo l a k) (nth l k) := by
  unfold latestTo
  rw [take_nth h, List.foldl_append]
  rfl

set_option maxRecDepth 100000 in
set_option maxHeartbeats 1000000 in
theorem paths_latest (n : Nt) (p : Pty) (A : Option Addr) (B : Nat → Option Addr) (C : Nat → Nat) (c : Nat) (i : Nat) (a : Int) (w : World) (hn : Pths w A B C n.paths) (hi : i < n.paths.length) (hok : netOk n = true) (hpk : partyOk p = true)
    (a1 : -1 ≤ a) (a2 : a ≤ 1073741824) :
    Calls Try.prog 43 #[vWalk n p A c, .int .i64 i, .int .i64 a] w fun e w' => e = .returned (.int .i64 (latestOf (nth n.paths i) (a - (spanOf p (nth n.paths i)).hi))) ∧ Ext w w' := by
  dsimp only [vWalk]
  obtain ⟨W, hW⟩ : ∃ W, w.alloc (.cells #[.int .i64 n.places, .slice A n.paths.length c, .int .i64 p.grade, .int .i64 p.load, .int .i64 p.pace.lo, .int .i64 p.pace.hi] 74) = W := ⟨_, rfl⟩
  have hx : Ext w W := hW ▸ (Ext.refl w).alloc _
  have k : ∀ W9 j, Ext W W9 → W9.cell? ⟨w.heap.size, j, none⟩ = (#[.int .i64 n.places, .slice A n.paths.length c, .int .i64 p.grade, .int .i64 p.load, .int .i64 p.pace.lo, .int .i64 p.pace.hi] : Array Value)[j]? := fun W9 j h => by rw [h.cell (by rw [← hW]; simp only [World.size_alloc]; omega), ← hW]; simp [go_sem]
  obtain ⟨pA, ⟨c0, c1, c2, c3, c4, c5, c6, c7⟩⟩ := (hn.ext hx).at_ hi
  have hop : Spns W (B i) (nth n.paths i).opens := Sl.ext (hn.opens i hi) hx
  have hl : (nth n.paths i).opens.length ≤ 6 := (pathOk_iff.1 ((netOk_iff.1 hok).2.2 _ (nth_mem hi))).2.2.2.2.2.2.1
  obtain ⟨sb1, sb2⟩ := spanOf_bd hok hpk hi
  have HS := Lib.hid (paths_span n p A B C c i W (hn.ext hx) hi hok hpk)
  clear hn c0 c1 c2 c3 c4 c5 c6 hok hpk
  unfold latestOf
  have hall : ∀ b, (nth n.paths i).opens.foldl (latestStep b) (-1) = latestTo (nth n.paths i).opens b (nth n.paths i).opens.length := fun b => by rw [latestTo, List.take_length]
  rw [hall]
  clear hall
  generalize (nth n.paths i).opens = l at *
  have hfld := field_span_hi
  go_enter Try.func43, Try.ntmps43
  go_wp2_with fail
  refine (HS.out).mono ?_
  rintro e w1 ⟨rfl, hx1⟩
  dsimp only [vSpn]
  clear HS
  generalize hh : (spanOf p (nth n.paths i)).hi = h at *
  have HH := Lib.hid hh
  clear hh
  generalize (spanOf p (nth n.paths i)).lo = h0 at *
  go_wp2
  go_loopw [7, 24] (fun v7 v24 wr => ∃ q : Nat, q ≤ l.length ∧ v24 = .int .i64 q ∧ v7 = .int .i64 (latestTo l (a - h) q) ∧ Ext W wr) (fun _ v24 _ => l.length - (intOf v24).toNat)
  case atStart => exact ⟨0, by omega, rfl, rfl, hx1⟩
  case round =>
    obtain ⟨q, hq, rfl, rfl, hxr⟩ := hrel
    by_cases hlt : q < l.length
    · obtain ⟨pB, ⟨d0, d1⟩⟩ := spns_at hop hlt
      have HS := Lib.hid (latestTo_succ (a := a - h) hlt)
      by_cases hle : (nth l q).lo ≤ a - h
      · go_wp2
        refine ⟨⟨q + 1, by omega, by go_num, ?_, hxr.alloc _⟩, by simp [intOf]; omega⟩
        refine int_val ?_
        rw [HS.out, latestStep, if_pos hle]
        (repeat' split) <;> omega
      · have hle' : ¬ (nth l q).lo ≤ a - h := hle
        go_wp2
        refine ⟨⟨q + 1, by omega, by go_num, ?_, hxr.alloc _⟩, by simp [intOf]; omega⟩
        refine int_val ?_
        rw [HS.out, latestStep, if_neg (by omega)]
    · obtain rfl : q = l.length := by omega
      go_wp2
      go_ret
      exact ⟨by rw [HH.out]; rfl, hx.trans hxr⟩
end Go.Proofs.Ytnjlpkdpmbpblaa
