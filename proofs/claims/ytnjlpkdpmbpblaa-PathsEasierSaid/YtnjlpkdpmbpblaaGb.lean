/- Words for walks with iterators. Conditions: in each contract. -/
import Derived.Test.YtnjlpkdpmbpblaaGa
import Derived.RangeFuncNested
import Derived.RangeFuncBound
import Derived.RangeFuncCalls
import Derived.RangeFuncLeaves
import Derived.Shelf.Abstract
import Derived.Shelf.RegionOpen
import Derived.OwnWalkIn
import Derived.TacticsInMore
import Derived.LoopNIn
import Derived.LoopIn
import Derived.Sort.QuietThIn
import Derived.Lib.QuietBelow
import Derived.Shelf.Bits.Mul64
import Derived.Test.YtnjlpkdpmbpblaaProg
import Derived.Laws.CopyOwn
import Derived.Deep.RegionLaw
set_option linter.unusedVariables false
set_option linter.unusedSimpArgs false
namespace Go.Proofs.Ytnjlpkdpmbpblaa
open Go.RowKit Go.Shelf

/-- all blocks below n0, and those of K, are as they were -/
structure KB (n0 : Nat) (K : List Nat) (w W : World) : Prop where
  os : W.os = w.os
  tape : W.tape = w.tape
  output : W.output = w.output
  size : w.heap.size ≤ W.heap.size
  block : ∀ k, (k < n0 ∨ k ∈ K) → W.heap[k]? = w.heap[k]?
/-- n0 and K lie in the heap -/
structure Inb (n0 : Nat) (K : List Nat) (w : World) : Prop where
  low : n0 ≤ w.heap.size
  own : ∀ k ∈ K, k < w.heap.size
section
variable {n0 : Nat} {K : List Nat} {a b c w W : World}
theorem KB.refl (n0 : Nat) (K : List Nat) (w : World) : KB n0 K w w := ⟨rfl, rfl, rfl, Nat.le_refl _, fun _ _ => rfl⟩
theorem KB.trans (h : KB n0 K a b) (k : KB n0 K b c) : KB n0 K a c :=
  ⟨k.os.trans h.os, k.tape.trans h.tape, k.output.trans h.output, Nat.le_trans h.size k.size, fun i hi => (k.block i hi).trans (h.block i hi)⟩
theorem Inb.kb (h : Inb n0 K w) (k : KB n0 K w W) : Inb n0 K W := ⟨Nat.le_trans h.low k.size, fun i hi => Nat.lt_of_lt_of_le (h.own i hi) k.size⟩
theorem Inb.lt (h : Inb n0 K w) {k : Nat} (hk : k < n0 ∨ k ∈ K) : k < w.heap.size := by
  rcases hk with hk | hk
  · exact Nat.lt_of_lt_of_le hk h.low
  · exact h.own k hk
theorem KB.ext_ (h : KB n0 K a w) (hi : Inb n0 K a) (e : Ext w W) : KB n0 K a W :=
  h.trans ⟨e.os, e.tape, e.output, e.size, fun k hk => e.block k ((hi.kb h).lt hk)⟩
theorem KB.of_ext (hi : Inb n0 K a) (e : Ext a W) : KB n0 K a W := (KB.refl n0 K a).ext_ hi e
theorem KB.alloc (h : KB n0 K a w) (hi : Inb n0 K a) (o : Obj) : KB n0 K a (w.alloc o) := h.ext_ hi ((Ext.refl w).alloc o)
theorem KB.drewN (h : KB n0 K a w) (n : Nat) : KB n0 K a (w.drewN n) := ⟨h.os, h.tape, h.output, h.size, h.block⟩
theorem KB.cell (h : KB n0 K w W) {p : Addr} (hp : p.block < n0 ∨ p.block ∈ K) : W.cell? p = w.cell? p := World.cell?_of_block (w := w) (h.block p.block hp)
theorem KB.setCell (h : KB n0 K a w) {p : Addr} (h1 : n0 ≤ p.block) (h2 : p.block ∉ K) (u : Value) : KB n0 K a (w.setCell p u) := by
  refine h.trans ⟨rfl, rfl, rfl, by simp [World.setCell], fun k hk => Below.heap_setCell w p u k ?_⟩
  rintro rfl
  rcases hk with hk | hk
  · omega
  · exact h2 hk
theorem KB.putObj (h : KB n0 K a w) {l : Nat} (h1 : n0 ≤ l) (h2 : l ∉ K) (o : Obj) : KB n0 K a (w.putObj l o) := by
  have hg := grownBy_putObj' w l o
  refine h.trans ⟨hg.os, hg.tape, hg.output, hg.size, fun k hk => World.putObj_heap_other ?_⟩
  rintro rfl
  rcases hk with hk | hk
  · omega
  · exact h2 hk
theorem KB.below (h : KB n0 K w W) : Below n0 w W := ⟨h.os, h.tape, h.output, h.size, fun k hk => h.block k (.inl hk)⟩
@[go_sem] theorem kb_refl_t (n0 : Nat) (K : List Nat) (w : World) : KB n0 K w w = True := eq_true (KB.refl n0 K w)
@[go_sem] theorem kb_alloc_t (hi : Inb n0 K a) (o : Obj) (h : KB n0 K a w) : KB n0 K a (w.alloc o) = True := eq_true (h.alloc hi o)
@[go_sem] theorem kb_alloc2_t (hi : Inb n0 K a) (o p : Obj) (h : KB n0 K a w) : KB n0 K a ((w.alloc o).alloc p) = True := eq_true ((h.alloc hi o).alloc hi p)
@[go_sem] theorem kb_drewN_t (n : Nat) (h : KB n0 K a w) : KB n0 K a (w.drewN n) = True := eq_true (h.drewN n)
@[go_sem] theorem kb_drew_t (h : KB n0 K a w) : KB n0 K a w.drew = True := eq_true (h.drewN 1)
end
theorem grown_of_ext {w W : World} (e : Ext w W) : w.grownBy W none := ⟨e.os, e.tape, e.output, e.size, fun i hi _ => e.block i hi⟩
theorem AbidesFrom.ext_ {β : Type} {B : Nat} {J : β → World → Prop} (h : AbidesFrom B J) {s : β} {w W : World} (hs : J s w) (e : Ext w W) : J s W :=
  h s w W none hs (grown_of_ext e) (fun r hr => by cases hr)
end Go.Proofs.Ytnjlpkdpmbpblaa
namespace Go.Proofs.Ytnjlpkdpmbpblaa
open Go.RowKit Go.Shelf
attribute [local go_sem] Oper.semAt_some

/-- a path's number -/
abbrev Pix (n : Nt) : Type := { i : Nat // i < n.paths.length }
def usable (n : Nt) (p : Pty) (but : Int) (k : Nat) : Bool := (((k : Int) != but) && decide ((nth n.paths k).grade ≤ p.grade))
def waysTo (n : Nt) (p : Pty) (but : Int) : Nat → List (Pix n)
  | 0 => []
  | k + 1 => if h : k < n.paths.length ∧ usable n p but k = true then waysTo n p but k ++ [⟨k, h.1⟩] else waysTo n p but k
theorem waysTo_length (n : Nt) (p : Pty) (but : Int) : ∀ k, (waysTo n p but k).length ≤ k
  | 0 => Nat.le_refl _
  | k + 1 => by
    have := waysTo_length n p but k
    unfold waysTo
    split
    · simp; omega
    · omega
theorem waysTo_yes {n : Nt} {p : Pty} {but : Int} {k : Nat} (h : k < n.paths.length) (hu : usable n p but k = true) : waysTo n p but (k + 1) = waysTo n p but k ++ [⟨k, h⟩] := by
  rw [waysTo, dif_pos ⟨h, hu⟩]
theorem waysTo_no {n : Nt} {p : Pty} {but : Int} {k : Nat} (hu : usable n p but k = false) : waysTo n p but (k + 1) = waysTo n p but k := by
  rw [waysTo, dif_neg (by simp [hu])]
abbrev vPth (B : Nat → Option Addr) (C : Nat → Nat) (l : List Pth) (k : Nat) : Value :=
  .agg #[.int .i64 (nth l k).frm, .int .i64 (nth l k).dst, .int .i64 (nth l k).grade, .int .i64 (nth l k).time.lo, .int .i64 (nth l k).time.hi, .int .i64 (nth l k).snow.lo, .int .i64 (nth l k).snow.hi, .slice (B k) (nth l k).opens.length (C k)]

set_option maxHeartbeats 400000 in
theorem paths_ways (n : Nt) (p : Pty) (A : Option Addr) (c : Nat) (but : Int) (w : World) :
    Calls Try.prog 42 #[vWalk n p A c, .int .i64 but] w fun e w' => e = .returned (.func (.func 65) #[] #[.pointer (some ⟨w.heap.size, 0, none⟩), .pointer (some ⟨w.heap.size + 1, 0, none⟩)]) ∧
      (w.alloc (.cells #[.int .i64 n.places, .slice A n.paths.length c, .int .i64 p.grade, .int .i64 p.load, .int .i64 p.pace.lo, .int .i64 p.pace.hi] 74)).alloc (.cells #[.int .i64 but] 3) = w' := by
  dsimp only [vWalk]
  go_enter Try.func42, Try.ntmps42
  go_wp2
  go_ret
  exact ⟨rfl, rfl⟩

set_option maxRecDepth 100000 in
set_option maxHeartbeats 2000000 in
theorem paths_ways1 (m : Nat) (n : Nt) (p : Pty) (A : Option Addr) (B : Nat → Option Addr) (C : Nat → Nat) (c : Nat) (but : Int) (Bw Bb n0 : Nat) (l : Nat) (J Jx : List (Pix n) → World → Prop) (hlen : n.paths.length ≤ 1000)
    (W : World) (hJa : AbidesFrom W.heap.size J)
    (hY : ∀ pre x W1, J pre W1 → pre.length < n.paths.length → YieldAt Fence.wide m Try.prog l #[.int .i64 (x.1 : Int), vPth B C n.paths x.1] W1 fun e W' =>
      (e = .returned (.bool true) ∧ J (pre ++ [x]) W' ∧ KB n0 [Bw, Bb] W1 W') ∨ (e = .returned (.bool false) ∧ Jx (pre ++ [x]) W'))
    (hn : ∀ W', KB n0 [Bw, Bb] W W' → Pths W' A B C n.paths)
    (hbw : ∀ W' j, KB n0 [Bw, Bb] W W' → W'.cell? ⟨Bw, j, none⟩ = (#[.int .i64 n.places, .slice A n.paths.length c, .int .i64 p.grade, .int .i64 p.load, .int .i64 p.pace.lo, .int .i64 p.pace.hi] : Array Value)[j]?)
    (hbb : ∀ W', KB n0 [Bw, Bb] W W' → W'.cell? ⟨Bb, 0, none⟩ = some (.int .i64 but)) (hinb : Inb n0 [Bw, Bb] W)
    (h0 : J [] W) :
    CallsIn Fence.wide (m + 1) Try.prog 65 #[.func (.yield l) #[] #[], .pointer (some ⟨Bw, 0, none⟩), .pointer (some ⟨Bb, 0, none⟩)] W fun e W' => (∃ v, e = .returned v) ∧
      ((∃ ys, ys = waysTo n p but n.paths.length ∧ J ys W') ∨ (∃ pre, (∃ k, k ≤ n.paths.length ∧ pre = waysTo n p but k) ∧ Jx pre W')) := by
  have HN := Lib.hid hn
  have HY := Lib.hid hY
  have HJ := Lib.hid hJa
  clear hn hY hJa
  refine callsIn_of_wp Try.func65 rfl trivial ?_ rfl
  simp only [Try.ntmps65, List.size_toArray, List.length_cons, List.length_nil, Nat.reduceAdd, Nat.reduceSub, Array.replicate_succ, Array.replicate_zero, List.push_toArray, List.append_toArray, List.nil_append, List.cons_append]
  gi_wp2
  gi_loopw [10] (fun v wr => ∃ k : Nat, k ≤ n.paths.length ∧ v = .int .i64 k ∧ J (waysTo n p but k) wr ∧ KB n0 [Bw, Bb] W wr) (fun v _ => n.paths.length - (intOf v).toNat)
  case atStart => exact ⟨0, Nat.zero_le _, rfl, h0, KB.refl _ _ _⟩
  case round =>
    obtain ⟨k, hk, rfl, hJs, hkb⟩ := hrel
    by_cases hlt : k < n.paths.length
    · obtain ⟨pA, ⟨c0, c1, c2, c3, c4, c5, c6, c7⟩⟩ := (HN.out wr hkb).at_ hlt
      have hbx : ∀ W' j, Ext (wr.alloc (.cells (vPth B C n.paths k).cells 34)) W' → W'.cell? ⟨wr.heap.size, j, none⟩ = ((vPth B C n.paths k).cells)[j]? := fun W' j h => h.box j
      dsimp only [vPth, Value.cells] at hbx
      by_cases hb : ((k : Int) != but) = true
      · by_cases hg : decide ((nth n.paths k).grade ≤ p.grade) = true
        · have hu : usable n p but k = true := by rw [usable, hb, hg]; rfl
          have HS := Lib.hid (waysTo_yes (p := p) (but := but) hlt hu)
          clear hu
          gi_wp2_with fail
          refine ⟨trivial, ?_⟩
          refine (callsIn_wide.2 (paths_can n p A B C c k _ ((HN.out wr hkb).ext ((Ext.refl wr).alloc _)) hlt)).mono ?_
          rintro e w1 ⟨rfl, hx1⟩
          have hx0 : Ext wr w1 := ((Ext.refl wr).alloc _).trans hx1
          have hk1 : KB n0 [Bw, Bb] W w1 := hkb.ext_ hinb hx0
          have hJ1 : J (waysTo n p but k) w1 := AbidesFrom.ext_ HJ.out hJs hx0
          obtain ⟨fn, tmps, assign, body, hy, hR⟩ := HY.out _ ⟨k, hlt⟩ w1 hJ1 (by have := waysTo_length n p but k; omega)
          dsimp only [vPth] at hy
          gi_wp2_with fail
          refine hR.mono ?_
          rintro e W3 (⟨rfl, hJ3, hk3⟩ | ⟨rfl, hJx3⟩)
          · gi_wp2
            go_roundw
            case rel => exact ⟨k + 1, by omega, by go_num, by rw [HS.out]; exact hJ3, hk1.trans hk3⟩
            case measure => simp [intOf]; omega
          · gi_wp2
            refine bodyPost_ret (results_none rfl _ _ _) rfl ?_
            exact ⟨⟨_, rfl⟩, .inr ⟨_, ⟨k + 1, by omega, HS.out.symm⟩, hJx3⟩⟩
        · have hg' : decide ((nth n.paths k).grade ≤ p.grade) = false := by simpa using hg
          have hu : usable n p but k = false := by rw [usable, hg', Bool.and_false]
          have HS := Lib.hid (waysTo_no (p := p) (but := but) hu)
          clear hu hg
          gi_wp2_with fail
          refine ⟨trivial, ?_⟩
          refine (callsIn_wide.2 (paths_can n p A B C c k _ ((HN.out wr hkb).ext ((Ext.refl wr).alloc _)) hlt)).mono ?_
          rintro e w1 ⟨rfl, hx1⟩
          have hx0 : Ext wr w1 := ((Ext.refl wr).alloc _).trans hx1
          have hk1 : KB n0 [Bw, Bb] W w1 := hkb.ext_ hinb hx0
          have hJ1 : J (waysTo n p but k) w1 := AbidesFrom.ext_ HJ.out hJs hx0
          gi_wp2
          refine ⟨fun _ h => (by cases h), ?_⟩
          gi_wp2
          go_roundw
          case rel => exact ⟨k + 1, by omega, by go_num, by rw [HS.out]; exact hJ1, hk1⟩
          case measure => simp [intOf]; omega
      · have hb' : ((k : Int) != but) = false := by simpa using hb
        have hu : usable n p but k = false := by rw [usable, hb', Bool.false_and]
        have HS := Lib.hid (waysTo_no (p := p) (but := but) hu)
        clear hu hb
        have hJ1 : J (waysTo n p but k) (wr.alloc (.cells (vPth B C n.paths k).cells 34)) := AbidesFrom.ext_ HJ.out hJs ((Ext.refl wr).alloc _)
        dsimp only [vPth, Value.cells] at hJ1
        have HJ1 := Lib.hid hJ1
        clear hJ1
        gi_wp2
        refine ⟨trivial, ?_⟩
        gi_wp2
        refine ⟨fun _ h => (by cases h), ?_⟩
        gi_wp2
        go_roundw
        case rel => exact ⟨k + 1, by omega, by go_num, by rw [HS.out]; exact HJ1.out, hkb.alloc hinb _⟩
        case measure => simp [intOf]; omega
    · obtain rfl : k = n.paths.length := by omega
      gi_wp2
      go_end0
      exact ⟨⟨_, rfl⟩, .inl ⟨_, rfl, hJs⟩⟩
end Go.Proofs.Ytnjlpkdpmbpblaa
namespace Go.Proofs.Ytnjlpkdpmbpblaa
open Go.RowKit Go.Shelf Go.Sort
section
variable {F : Fence} {n : Nat} {P : Program} {ops : Array Oper} {C : World → Prop}
theorem wpIn_of_quiet_any {o : Oper} {a : Act} {K : Act → Prop} {K' : Act → World → Prop} {Q' : Exit → Act → World → Prop} {w : World} (hw : C w) (h : ∀ a w', C w' → K a → K' a w')
    (ha : o.askedIn F P a C) (hh : o.quietIn F n P a C K) : o.wpIn F n P a w K' Q' := by
  obtain ⟨v, h1, h2⟩ := hh
  have h3 := h1 w hw
  unfold Oper.quietAtIn at h3
  have hnd : ∀ c, o.op ≠ .defer c := by
    intro c hc
    unfold execOp at h3
    simp only [hc] at h3
    cases hr : (resolve a.eval c o.type).run P w with
    | ok x w' => simp [hr, Result.andThen, Oper.quietUponIn] at h3
    | halt x w' => simp [hr, Result.andThen, Oper.quietUponIn] at h3
  unfold Oper.wpIn
  refine ⟨ha w hw, ?_⟩
  rw [Oper.semAt_eq _ _ _ hnd]
  generalize (execOp a.eval o).run P w = r at *
  cases r with
  | ok x w' =>
    cases x <;> simp only [Oper.quietUponIn] at h3 <;> simp only [Oper.uponIn]
    case value u =>
      obtain ⟨e1, e2⟩ := h3
      rw [e1, e2]
      exact h _ _ hw h2
    case skip =>
      obtain ⟨e1, e2⟩ := h3
      rw [e1, ← e2]
      exact h _ _ hw h2
    case enter f args =>
      obtain ⟨e1, hd, hc⟩ := h3
      rw [e1]
      exact ⟨hd, hc.mono fun e w'' ⟨he, hw''⟩ => by subst he; exact h _ _ hw'' h2⟩
  | halt x w' => simp only [Oper.quietUponIn] at h3
theorem wpOpIn_of_quiet_any {i : Nat} {a : Act} {K : Act → Prop} {K' : Act → World → Prop} {Q' : Exit → Act → World → Prop} {w : World} (hC : C w) (h : ∀ a w', C w' → K a → K' a w')
    (hh : qOpIn F n P ops C i K a) : wpOpIn F n P ops Q' i K' a w := by
  unfold qOpIn at hh
  unfold wpOpIn
  split
  · rename_i ho; simp only [ho] at hh; exact h _ _ hC hh
  · rename_i o ho
    simp only [ho] at hh
    obtain ⟨ha, hh⟩ := hh
    split
    · rename_i hw; simp only [hw, if_true] at hh; exact wpIn_of_quiet_any hC h ha hh
    · rename_i hw; simp only [hw] at hh; exact ⟨ha w hC, h _ _ hC hh⟩
theorem wpAnyIn_of_quiet_any {md : Region.Mode} {Q : Act → Prop} {Q' : Exit → Act → World → Prop} (hQ : ∀ a w, C w → Q a → Q' .normal a w) : ∀ (fuel : Nat) (listed : Array Bool) (a : Act) (w : World), C w →
    wpAnyQIn F n P md ops C Q fuel listed a → wpAnyIn F n P md ops Q' fuel listed a w
  | 0, _, _, _, hw, h => ⟨h.1, hQ _ _ hw h.2⟩
  | fuel + 1, _, _, _, hw, h => ⟨fun h0 => hQ _ _ hw (h.1 h0), fun i hi => wpOpIn_of_quiet_any hw (fun a' w' hw' => wpAnyIn_of_quiet_any hQ fuel _ a' w' hw') (h.2 i hi)⟩
/-- a plain quiet walk serves inside a fence that lets every function in -/
theorem wpQuietIn_of {Q : Act → Prop} (hfn : ∀ f, F.fn f) (hd : F.depth = none) (hcall : ∀ {m : Nat} {f : FuncId} {args : Array Value} {w : World} {R : Ending → World → Prop}, Calls P f args w R → CallsIn F m P f args w R) :
    ∀ (l : List Oper) (a : Act), wpQuiet P ops C Q l a → wpQuietIn F n P ops C Q l a := by
  intro l
  induction l with
  | nil => exact fun a h => h
  | cons o l ih =>
    intro a h
    refine ⟨fun w _ f _ => hfn f, ?_⟩
    unfold wpQuiet at h
    split
    · rename_i hw
      rw [if_pos hw] at h
      obtain ⟨v, h1, h2⟩ := h
      refine ⟨v, fun w hC => ?_, ih _ h2⟩
      have h3 := h1 w hC
      unfold Oper.quietAt at h3
      unfold Oper.quietAtIn
      generalize (execOp a.eval o).run P w = r at *
      cases r with
      | ok x w' =>
        cases x <;> simp only [Oper.quietUpon] at h3 <;> simp only [Oper.quietUponIn]
        case value u => exact h3
        case skip => exact h3
        case enter f args => exact ⟨h3.1, (fun (hs : F.depth.isSome = true) => by rw [hd] at hs; cases hs), hcall h3.2⟩
      | halt x w' => simp only [Oper.quietUpon] at h3
    · rename_i hw
      rw [if_neg hw] at h
      exact ih _ h
/-- A REGION THAT DRAWS, IN WHATEVER ROUND, whose operations read and whose callees hand back one value and only make memory. -/
theorem wpIn_region_ext {id : Nat} {Q : Exit → Act → World → Prop} {a : Act} {w : World} {l : List Oper} (hfn : ∀ f, F.fn f) (hd : F.depth = none) (hcall : ∀ {m : Nat} {f : FuncId} {args : Array Value} {w : World} {R : Ending → World → Prop}, Calls P f args w R → CallsIn F m P f args w R)
    (hm : P.follows .mixedOrders = true) (hB : Region.lexB .any l.toArray = true)
    (h : wpQuiet P l.toArray (fun w' => ∃ p : Regrown, w' = grow (redrawn w p.d) p.os) (fun a' => ∀ w', (∃ p : Regrown, w' = grow (redrawn w p.d) p.os) → Q .normal a' w') l a) : (Code.region id l.toArray true).wpIn F n P Q a w := by
  simp only [Region.lexB, Bool.and_eq_true] at hB
  refine wpIn_region_any hm (wpAnyIn_of_quiet_any (C := fun w' => ∃ p : Regrown, w' = grow (redrawn w p.d) p.os) (Q := fun a' => ∀ w', (∃ p : Regrown, w' = grow (redrawn w p.d) p.os) → Q .normal a' w') (fun _ w' hw' h => h w' hw') _ _ _ _ ⟨⟨w.drawn + 1, #[]⟩, by rw [grow_empty]; rfl⟩ ?_)
  have := wpAnyQIn_lex (F := F) (n := n) (C := fun w' => ∃ p : Regrown, w' = grow (redrawn w p.d) p.os) (md := .any) hB.1 l.toArray.toList 0 (Array.replicate l.toArray.size false) a (by simp) (by simpa using hB.2) (by simpa using wpQuietIn_of (n := n) hfn hd hcall l a h)
  simpa using this
end
theorem ext_regrown (w : World) (d : Nat) (os : Array Obj) : Ext w (grow (redrawn w d) os) := below_regrown w d os
@[go_sem] theorem ext_regrown_t {a w : World} (d : Nat) (os : Array Obj) (h : Ext a w) : Ext a (grow (redrawn w d) os) = True := eq_true (h.trans (ext_regrown w d os))
@[go_sem] theorem kb_regrown_t {n0 : Nat} {K : List Nat} {a w : World} (hi : Inb n0 K a) (d : Nat) (os : Array Obj) (h : KB n0 K a w) : KB n0 K a (grow (redrawn w d) os) = True := eq_true (h.ext_ hi (ext_regrown w d os))

/-- the marks that loops over iterators leave among the deferred calls: shut blocks, each once -/
def Marks (w : World) : List Deferred → Prop
  | [] => True
  | d :: ds => (∃ D, d = { target := .collected D, args := #[] } ∧ w.heap[D]? = some (.deferred (some [])) ∧ ∀ e ∈ ds, e.target ≠ .collected D) ∧ Marks w ds
/-- all marks lie from n0 on -/
def MarksFrom (n0 : Nat) (ds : List Deferred) : Prop := ∀ d ∈ ds, ∀ D, d.target = .collected D → n0 ≤ D
/-- what the way out leaves: all that is no mark -/
structure Shut (n0 : Nat) (w W : World) : Prop where
  os : W.os = w.os
  tape : W.tape = w.tape
  output : W.output = w.output
  size : w.heap.size ≤ W.heap.size
  low : ∀ k, k < n0 → W.heap[k]? = w.heap[k]?
  cells : ∀ (k : Nat) (o : Obj), w.heap[k]? = some o → o.isCells = true → W.heap[k]? = some o
theorem Shut.refl (n0 : Nat) (w : World) : Shut n0 w w := ⟨rfl, rfl, rfl, Nat.le_refl _, fun _ _ => rfl, fun _ _ h _ => h⟩
theorem marks_kept {w W : World} {ds : List Deferred} (h : Marks w ds) (hk : ∀ D, w.heap[D]? = some (.deferred (some [])) → (∃ d ∈ ds, d.target = .collected D) → W.heap[D]? = some (.deferred (some []))) : Marks W ds := by
  induction ds with
  | nil => trivial
  | cons d ds ih =>
    obtain ⟨⟨D, rfl, hD, hne⟩, hr⟩ := h
    exact ⟨⟨D, rfl, hk D hD ⟨_, List.mem_cons_self, rfl⟩, hne⟩, ih hr (fun E hE ⟨d, hd, he⟩ => hk E hE ⟨d, List.mem_cons_of_mem _ hd, he⟩)⟩
theorem leaves_marks {F : Fence} {n : Nat} {P : Program} {fn : Func} {tmps : Array Value} {R : Ending → World → Prop} {v : Value} {n0 : Nat} : ∀ (ds : List Deferred) (w : World), Marks w ds → MarksFrom n0 ds →
    (∀ W, Shut n0 w W → (results fn tmps).run P W = .ok v W ∧ R (.returned v) W) → LeavesInM F n P fn tmps R ds .returning w := by
  intro ds
  induction ds with
  | nil => exact fun w _ _ h => ⟨v, h w (Shut.refl _ _)⟩
  | cons d ds ih =>
    intro w hm hf h
    obtain ⟨⟨D, rfl, hD, hne⟩, hr⟩ := hm
    have hDn : n0 ≤ D := hf _ List.mem_cons_self D rfl
    refine ⟨by simp, .inl ⟨D, _, rfl, run_takeDeferred hD, ih _ ?_ (fun e he E => hf e (List.mem_cons_of_mem _ he) E) ?_⟩⟩
    · refine marks_kept hr (fun E hE ⟨e, he, het⟩ => ?_)
      rw [World.putObj_heap_other (fun (x : E = D) => hne e he (by rw [het, x]))]
      exact hE
    · intro W hs
      have hg := grownBy_putObj' w D (.deferred none)
      refine h W ⟨hs.os.trans hg.os, hs.tape.trans hg.tape, hs.output.trans hg.output, Nat.le_trans hg.size hs.size, fun k hk => (hs.low k hk).trans (World.putObj_heap_other (by omega)), fun k o hk ho => hs.cells k o ?_ ho⟩
      rw [World.putObj_heap_other ?_]
      · exact hk
      · rintro rfl
        rw [hD] at hk
        cases hk
        cases ho
end Go.Proofs.Ytnjlpkdpmbpblaa
namespace Go.Proofs.Ytnjlpkdpmbpblaa
open Go.Shelf Go.RowKit Go.Lib
def lays212_ren : Go.Shelf.Ren := ⟨fun | 212 => 64 | 263 => 79 | 264 => 80 | n => n, fun | 46 => 86 | 51 => 150 | 146 => 151 | 53 => 153 | 148 => 154 | n => n, fun | n => n⟩
theorem lays212 : Go.Proofs.Lays.n212 Try.prog lays212_ren := {
  mixed := by kernel_rfl
  f212 := Try.func64.trans (congrArg some (by kernel_rfl))
  f263 := Try.func79.trans (congrArg some (by kernel_rfl))
  f264 := Try.func80.trans (congrArg some (by kernel_rfl))
  t46 := Try.underlying86
  a46 := Try.isAgg86
  z46 := Try.sizeOf86
  v46 := Try.zeroValue86
  t51 := Try.underlying150
  a51 := Try.isAgg150
  z51 := Try.sizeOf150
  v51 := Try.zeroValue150
  t53 := Try.underlying153
  a53 := Try.isAgg153
  z53 := Try.sizeOf153
  v53 := Try.zeroValue153
  t146 := Try.underlying151
  a146 := Try.isAgg151
  z146 := Try.sizeOf151
  v146 := Try.zeroValue151
  t148 := Try.underlying154
  a148 := Try.isAgg154
  z148 := Try.sizeOf154
  v148 := Try.zeroValue154 }
/-- math/bits.Mul -/
theorem bits_Mul (x y : Nat) (hx : x < 18446744073709551616) (hy : y < 18446744073709551616) (w : World) :
    Calls Try.prog 64 #[.int .u64 x, .int .u64 y] w fun e w' => e = .returned (.tuple #[.int .u64 ((x * y / 18446744073709551616 : Nat) : Int), .int .u64 ((x * y % 18446744073709551616 : Nat) : Int)]) ∧ w' = w := Any.bits_Mul lays212 x y hx hy w
end Go.Proofs.Ytnjlpkdpmbpblaa
namespace Go.Proofs.Ytnjlpkdpmbpblaa
open Go.RowKit
/-- block b is a row of ints, all known -/
def Row (w : World) (b : Nat) (xs : List Int) : Prop := w.heap[b]? = some (.cells (xs.map (Value.int .i64)).toArray 3 (0, 0))
theorem Row.cell {w : World} {b : Nat} {xs : List Int} (h : Row w b xs) {i : Nat} (hi : i < xs.length) : w.cell? ⟨b, i, none⟩ = some (.int .i64 (nth xs i)) := by
  unfold Row at h
  simp [World.cell?, h, nth_eq hi, hi]
theorem Row.frozen {w : World} {b : Nat} {xs : List Int} (h : Row w b xs) (i : Nat) : w.frozen? ⟨b, i, none⟩ = false := by
  unfold Row at h
  simp [World.frozen?, h]
theorem Row.lt {w : World} {b : Nat} {xs : List Int} (h : Row w b xs) : b < w.heap.size := (Array.getElem?_eq_some_iff.1 h).1
theorem Row.ext {w w' : World} {b : Nat} {xs : List Int} (h : Row w b xs) (e : Ext w w') : Row w' b xs := (e.block b h.lt).trans h
theorem Row.ints {w : World} {b : Nat} {xs : List Int} (h : Row w b xs) : Ints w (some ⟨b, 0, none⟩) xs := by
  intro h0
  refine ⟨⟨b, 0, rfl⟩, h.lt, fun k j hk hj => ?_⟩
  obtain rfl : j = 0 := by omega
  have := h.cell hk
  simpa [blk, off] using this
theorem Row.set {w : World} {b : Nat} {xs : List Int} (h : Row w b xs) (i : Nat) (x : Int) : Row (w.setCell ⟨b, i, none⟩ (.int .i64 x)) b (xs.set i x) := by
  unfold Row at h ⊢
  simp [World.setCell, Array.getElem?_modify, h, List.map_set]

/-- k elements are filled, the rest is 0 -/
def filled (x : Int) (n k : Nat) : List Int := List.replicate k x ++ List.replicate (n - k) 0
theorem filled_length {x : Int} {n k : Nat} (h : k ≤ n) : (filled x n k).length = n := by simp [filled]; omega
theorem filled_splice (x : Int) {n k m : Nat} (h : k + m ≤ n) : splice ((filled x n k).map (Value.int .i64)) k ((List.replicate m x).map (Value.int .i64)) = (filled x n (k + m)).map (Value.int .i64) := by
  unfold splice filled
  rw [List.length_map, List.length_replicate, ← List.map_take, ← List.map_drop, ← List.map_append, ← List.map_append]
  congr 1
  rw [List.take_append_of_le_length (by simp), List.take_of_length_le (by simp), List.drop_append, List.drop_of_length_le (by simp)]
  simp only [List.length_replicate, List.nil_append, List.drop_replicate]
  rw [← List.append_assoc, List.replicate_append_replicate]
  congr 2
  omega
theorem filled_all (x : Int) (n : Nat) : filled x n n = List.replicate n x := by simp [filled]
theorem len_min (x : Int) {m k j : Nat} (h : m ≤ k) (e : j = m := by rfl) : ((List.replicate m x).map (Value.int .i64)).length = Nat.min j k := by
  subst e
  rw [List.length_map, List.length_replicate]
  exact (Nat.min_eq_left h).symm
theorem made_ints (n : Nat) : madeCells #[Value.int .i64 0] (n * 1) = ((List.replicate n (0 : Int)).map (Value.int .i64)).toArray := by
  unfold madeCells
  apply Array.ext
  · simp
  · intro i h1 h2
    simp [Nat.mod_one]
theorem int_info : (Try.prog.info? 3).map (fun i => (i.zero, i.size, i.bytes)) = some (some (.int .i64 0), 1, 8) := by kernel_rfl
theorem int_size : (Try.prog.info? 3).map (·.size) = some 1 := by kernel_rfl
theorem make_ints (n : Nat) (hn : n ≤ 1000000) (W : World) : (Instr.makeSlice 29 (.int .i64 (n : Int)) (.int .i64 (n : Int))).run Try.prog W = .ok (.slice (some ⟨W.heap.size, 0, none⟩) n n) (W.alloc (.cells ((List.replicate n (0 : Int)).map (Value.int .i64)).toArray 3)) := by
  obtain ⟨i0, hi, hz0, hz1, hz2⟩ := info_parts int_info
  have h := run_make W 29 3 i0 (.int .i64 0) Try.underlying29 hi hz0 .i64 .i64 n n (by omega) (by omega) (by rw [hz2]; omega) (by omega)
  rw [h, hz1]
  simp only [Int.toNat_natCast]
  show Result.ok _ (W.alloc (.cells (madeCells #[Value.int .i64 0] (n * 1)) _)) = _
  rw [made_ints]
set_option maxRecDepth 100000 in
set_option maxHeartbeats 1000000 in
theorem slices_Repeat (A : Option Addr) (c : Nat) (x : Int) (n : Nat) (w : World) (hx : Ints w A [x]) (h1 : 1 ≤ n) (h2 : n ≤ 1000) :
    Calls Try.prog 41 #[.slice A 1 c, .int .i64 n] w fun e w' => ∃ b, e = .returned (.slice (some ⟨b, 0, none⟩) n n) ∧ w.heap.size ≤ b ∧ Row w' b (List.replicate n x) ∧ Ext w w' := by
  obtain ⟨pA, lA, cA⟩ := hx.one (by simp)
  have c0 := cA 0 (by simp)
  have e1 : nth [x] 0 = x := by simp [nth]
  rw [e1, Nat.add_zero] at c0
  clear cA hx e1
  have hmul : ∀ w, Calls Try.prog 64 #[.int .u64 1, .int .u64 n] w fun e w' => e = .returned (.tuple #[.int .u64 0, .int .u64 n]) ∧ w' = w := fun w => (bits_Mul 1 n (by omega) (by omega) w).mono fun e w' ⟨he, hw⟩ => ⟨by
      rw [he]
      have d1 : 1 * n / 18446744073709551616 = 0 := by omega
      have d2 : 1 * n % 18446744073709551616 = n := by omega
      rw [d1, d2]
      rfl, hw⟩
  have HM := Lib.hid hmul
  clear hmul
  have hmk := make_ints n (by omega)
  go_enter Try.func41, Try.ntmps41
  go_wp2_with fail
  refine (HM.out _).mono ?_
  rintro e w1 ⟨rfl, rfl⟩
  obtain ⟨W1, hW1⟩ : ∃ W1, w1.alloc (.cells (Array.replicate n (Value.int .i64 0)) 3) = W1 := ⟨_, rfl⟩
  have hx1 : Ext w1 W1 := hW1 ▸ (Ext.refl w1).alloc _
  have r0 : Row W1 w1.heap.size (filled x n 0) := by rw [← hW1]; unfold Row; rw [heap_alloc_new]; simp [filled]
  have c0' : W1.cell? ⟨blk A, off A, none⟩ = some (.int .i64 x) := Ext.old c0 hx1
  have R0 := Lib.hid r0
  have HX1 := Lib.hid hx1
  clear r0 c0 hx1
  obtain ⟨ab, ao, hA⟩ := pA
  have HA := Lib.hid hA
  clear hA
  have hsrc : ∀ j v, ((List.replicate 1 x).map (Value.int .i64))[j]? = some v → W1.cell? ((⟨ab, ao, none⟩ : Addr).add j) = some v := fun j v hj => by
    have hj0 : j = 0 := by
      have := (List.getElem?_eq_some_iff.1 hj).1
      simpa using this
    subst hj0
    have hv : Value.int .i64 x = v := by simpa using hj
    subst hv
    have h := c0'
    rw [HA.out] at h
    simpa [blk, off, Addr.add] using h
  have HSRC := Lib.hid hsrc
  clear hsrc c0'
  go_wp2_with (refine wpList_copy_splice rfl (.tmp 31) (.tmp 32) 29 29 rfl 3 Try.underlying29 int_size (some ⟨w1.heap.size, 0, none⟩) A n n 1 c rfl rfl w1.heap.size 0 ((filled x n 0).map (Value.int .i64)) 3 (show _ = _ from R0.out) ((List.replicate 1 x).map (Value.int .i64)) (len_min x h1) (fun _ => ⟨rfl, ⟨ab, ao, none⟩, HA.out, HSRC.out⟩) (by simp [filled_length]; omega) (by simp [Value.oneCell']) w1.heap.size w1 HX1.out (Nat.le_refl _) ?_; intro w2 hg2 hb2)
  clear hmk hW1
  have r2 : Row w2 w1.heap.size (filled x n 1) := by
    have h := hg2.out
    rw [filled_splice x (by omega)] at h
    exact h
  have R2 := Lib.hid r2
  clear hg2 r2
  go_loopw [8] (fun v8 wr => ∃ k : Nat, 1 ≤ k ∧ k ≤ n ∧ v8 = .int .i64 k ∧ Hid (Row wr w1.heap.size (filled x n k)) ∧ Below w1.heap.size w1 wr) (fun v8 _ => n - (intOf v8).toNat)
  case atStart => exact ⟨1, by omega, by omega, rfl, R2, hb2⟩
  case round =>
    obtain ⟨k, hk1, hk, rfl, hr, hb⟩ := hrel
    by_cases hlt : k < n
    · obtain ⟨m, hm⟩ : ∃ m, m = Nat.min k (n - k) := ⟨_, rfl⟩
      have hm1 : m ≤ k := hm ▸ Nat.min_le_left k (n - k)
      have hm2 : m ≤ n - k := hm ▸ Nat.min_le_right k (n - k)
      have hm3 : 1 ≤ m := hm ▸ Nat.le_min.2 ⟨hk1, by omega⟩
      have hlen : ((List.replicate m x).map (Value.int .i64)).length = Nat.min k (n - k) := by rw [List.length_map, List.length_replicate, hm]
      have HL := Lib.hid hlen
      clear hlen hm
      have hsrc : ∀ j v, ((List.replicate m x).map (Value.int .i64))[j]? = some v → wr.drew.cell? ((⟨w1.heap.size, 0, none⟩ : Addr).add j) = some v := fun j v hj => by
        have hj0 : j < m := by
          have := (List.getElem?_eq_some_iff.1 hj).1
          simpa using this
        have hv : Value.int .i64 x = v := by simpa [hj0] using hj
        subst hv
        have h := (hr.out).cell (i := j) (by rw [filled_length hk]; omega)
        have e : nth (filled x n k) j = x := by
          rw [nth_eq (by rw [filled_length hk]; omega)]
          simp only [filled]
          rw [List.getElem_append_left (by simp; omega)]
          simp
        rw [e] at h
        rw [Addr.add_lit, Nat.zero_add]
        exact h
      have HS := Lib.hid hsrc
      have hg : wr.drew.heap[w1.heap.size]? = some (.cells ((filled x n k).map (Value.int .i64)).toArray 3 (0, 0)) := hr.out
      have HG := Lib.hid hg
      clear hsrc hg
      have hne : ¬ n = k := by omega
      go_wp2
      go_region_law ((refine step_copy_splice rfl (.tmp 41) (.tmp 44) 29 29 rfl 3 Try.underlying29 int_size (some ⟨w1.heap.size, k, none⟩) (some ⟨w1.heap.size, 0, none⟩) (n - k) (n - k) k n ?_ ?_ w1.heap.size k ((filled x n k).map (Value.int .i64)) 3 HG.out ((List.replicate m x).map (Value.int .i64)) HL.out (fun _ => ⟨rfl, ⟨w1.heap.size, 0, none⟩, rfl, HS.out⟩) (by simp [filled_length hk]; omega) (by simp [Value.oneCell']) w1.heap.size w1 hb.drew (Nat.le_refl _) ?_; (· go_simp); (· go_simp); intro w4 hg4 hb4))
      have r4 : Row w4 w1.heap.size (filled x n (k + m)) := by
        have h := hg4.out
        rw [filled_splice x (by omega)] at h
        exact h
      have R4 := Lib.hid r4
      clear hg4 r4
      simp only [Exit.inBlock]
      have ew : IntKind.i64.wrap ((k : Int) + m) = (k : Int) + m := IntWalk.i64_in _ (by omega)
      go_simp
      clear ew
      go_wp2
      go_roundw
      case rel => exact ⟨k + m, by omega, by omega, by go_num, R4, hb4⟩
      case measure => simp [intOf]; omega
    · obtain rfl : k = n := by omega
      go_wp2
      go_ret
      refine ⟨w1.heap.size, rfl, Nat.le_refl _, ?_, hb⟩
      have h := hr.out
      rwa [filled_all] at h
end Go.Proofs.Ytnjlpkdpmbpblaa
