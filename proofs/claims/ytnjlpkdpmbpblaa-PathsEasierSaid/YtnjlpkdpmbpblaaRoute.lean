/- Walk: paths.Route at what is valid. Conditions: the slices read as lists; net, party, places and minute are valid; some row of steps has the arrival. -/
import Derived.Test.YtnjlpkdpmbpblaaRouteA
set_option linter.unusedVariables false
set_option linter.unusedSimpArgs false
namespace Go.Proofs.Ytnjlpkdpmbpblaa
open Go.RowKit Go.Shelf Go.Sort
attribute [local go_sem] Oper.semAt_some
theorem OnlyB.drew {b : Nat} {w W : World} (h : OnlyB b w W) : OnlyB b w W.drew := ⟨h.os, h.tape, h.output, h.size, h.block⟩
theorem OnlyB.cell {b : Nat} {w W : World} (h : OnlyB b w W) {r j : Nat} (h1 : r ≠ b) (h2 : r < w.heap.size) : W.cell? ⟨r, j, none⟩ = w.cell? ⟨r, j, none⟩ := World.cell?_of_block (w := w) (h.block r h1 h2)

set_option maxRecDepth 100000 in
set_option maxHeartbeats 4000000 in
theorem paths_Route (n : Nt) (p : Pty) (frm start to : Int) (A : Option Addr) (B : Nat → Option Addr) (C : Nat → Nat) (c : Nat) (w : World) (hn : Pths w A B C n.paths) (hok : netOk n = true) (hpk : partyOk p = true)
    (hf : 0 ≤ frm ∧ frm ≤ n.places - 1) (hs : 0 ≤ start ∧ start ≤ 2880) (ht : 0 ≤ to ∧ to ≤ n.places - 1)
    (hfound : ∀ l, Arr n p true (-1) frm start l → nth l to.toNat ≠ neverN → ∃ k, k < n.places.toNat ∧ nth (stepF n p frm start k) to.toNat = nth l to.toNat) :
    Calls Try.prog 14 #[vNt n A c, vPty p, .int .i64 frm, .int .i64 start, .int .i64 to] w fun e w' => ∃ l, Arr n p true (-1) frm start l ∧ Ext w w' ∧
      ((nth l to.toNat = neverN ∧ e = .returned (.tuple #[.slice none 0 0, .int .i64 0, .int .i64 3])) ∨
        (nth l to.toNat ≠ neverN ∧ ∃ (m : Nat) (D : Option Addr) (cap : Nat), m < n.places.toNat ∧ nth (stepF n p frm start m) to.toNat = nth l to.toNat ∧ (∀ j, j < m → nth (stepF n p frm start j) to.toNat ≠ nth l to.toNat) ∧
          w'.ownsRow w.heap.size 3 1 (.slice D (trk n p to (nth l to.toNat) frm start m m).route.length cap) (trk n p to (nth l to.toNat) frm start m m).route.length ((trk n p to (nth l to.toNat) frm start m m).route.map (Value.int .i64)) ∧
          e = .returned (.tuple #[.slice D (trk n p to (nth l to.toNat) frm start m m).route.length cap, .int .i64 (nth l to.toNat), .int .i64 0]))) := by
  refine (callsIn_wide (n := 6)).1 ?_
  dsimp only [vNt, vPty]
  have herr : askErr n p [frm, to] [start] = 0 := by simp [askErr, npErr, hok, hpk, within, hf, hs, ht]
  obtain ⟨⟨np1, np2⟩, nlen, hall⟩ := netOk_iff.1 hok
  obtain ⟨f1, f2⟩ := hf
  obtain ⟨s1, s2⟩ := hs
  obtain ⟨t1, t2⟩ := ht
  have HALL := Lib.hid hall
  have HN := Lib.hid hn
  have HOK := Lib.hid hok
  have HPK := Lib.hid hpk
  have HFD := Lib.hid hfound
  clear hall hn hok hpk hfound
  obtain ⟨W1, hW1⟩ : ∃ W1, ((((((w.alloc (.cells #[.int .i64 n.places, .slice A n.paths.length c] 24)).alloc (.cells #[.int .i64 p.grade, .int .i64 p.load, .int .i64 p.pace.lo, .int .i64 p.pace.hi] 28)).alloc (.cells #[.int .i64 to] 3)).alloc (.cells #[.slice none 0 0] 29)).alloc (.cells #[.int .i64 0] 3)).alloc (.cells #[.int .i64 frm, .int .i64 to] 3)).alloc (.cells #[.int .i64 start] 3) = W1 := ⟨_, rfl⟩
  have hx1 : Ext w W1 := hW1 ▸ (((((((Ext.refl w).alloc _).alloc _).alloc _).alloc _).alloc _).alloc _).alloc _
  have hsz1 : W1.heap.size = w.heap.size + 7 := by rw [← hW1]; simp
  have i1 : Ints W1 (some ⟨w.heap.size + 1 + 1 + 1 + 1 + 1, 0, none⟩) [frm, to] := by
    refine Row.ints (b := w.heap.size + 1 + 1 + 1 + 1 + 1) ?_
    rw [← hW1]
    refine Row.ext ?_ ((Ext.refl _).alloc _)
    unfold Row
    rw [heap_alloc_new' (by simp)]
    rfl
  have i2 : Ints W1 (some ⟨w.heap.size + 1 + 1 + 1 + 1 + 1 + 1, 0, none⟩) [start] := by
    refine Row.ints (b := w.heap.size + 1 + 1 + 1 + 1 + 1 + 1) ?_
    rw [← hW1]
    unfold Row
    rw [heap_alloc_new' (by simp)]
    rfl
  have hto1 : W1.heap[w.heap.size + 1 + 1]? = some (.cells #[.int .i64 to] 3 (0, 0)) := by
    rw [← hW1]
    refine ((((((Ext.refl _).alloc _).alloc _).alloc _).alloc _).block _ ?_).trans (heap_alloc_new' (by simp))
    simp
  have hrt1 : W1.heap[w.heap.size + 1 + 1 + 1]? = some (.cells #[.slice none 0 0] 29 (0, 0)) := by
    rw [← hW1]
    refine (((((Ext.refl _).alloc _).alloc _).alloc _).block _ ?_).trans (heap_alloc_new' (by simp))
    simp
  have har1 : W1.heap[w.heap.size + 1 + 1 + 1 + 1]? = some (.cells #[.int .i64 0] 3 (0, 0)) := by
    rw [← hW1]
    refine ((((Ext.refl _).alloc _).alloc _).block _ ?_).trans (heap_alloc_new' (by simp))
    simp
  have hop := paths_open n p A B C c _ _ 2 1 [frm, to] [start] W1 (HN.out.ext hx1) i1 i2 (by simp) (by simp)
  rw [herr] at hop
  have HOP := Lib.hid hop
  clear hop herr i1 i2
  have tob : ∀ W9, Ext W1 W9 → W9.cell? ⟨w.heap.size + 1 + 1, 0, none⟩ = some (.int .i64 to) := fun W9 h => by rw [h.cell (by simp; omega)]; simp [World.cell?, hto1]
  refine callsIn_of_wp_marks Try.func14 rfl trivial ?_ rfl
  simp only [Try.ntmps14, List.size_toArray, List.length_cons, List.length_nil, Nat.reduceAdd, Nat.reduceSub, Array.replicate_succ, Array.replicate_zero, List.push_toArray, List.append_toArray, List.nil_append, List.cons_append]
  gi_wp2_with fail
  clear hW1
  generalize e6 : w.heap.size + 1 + 1 + 1 + 1 + 1 + 1 = b6 at *
  generalize e5 : w.heap.size + 1 + 1 + 1 + 1 + 1 = b5 at *
  generalize e4 : w.heap.size + 1 + 1 + 1 + 1 = bA at *
  generalize e3 : w.heap.size + 1 + 1 + 1 = bR at *
  generalize e2 : w.heap.size + 1 + 1 = bT at *
  generalize e1 : w.heap.size + 1 = b1 at *
  have hbs : w.heap.size < bT ∧ bT < bR ∧ bR < bA ∧ bA < W1.heap.size := by omega
  obtain ⟨hb1, hb2, hb3, hb4⟩ := hbs
  clear e1 e2 e3 e4 e5 e6 hsz1
  refine ⟨trivial, ?_⟩
  refine (callsIn_wide.2 HOP.out).mono ?_
  clear HOP
  rintro e w2 ⟨rfl, hx2⟩
  have hx02 : Ext w w2 := hx1.trans hx2
  dsimp only [vWalk]
  obtain ⟨W3, hW3⟩ : ∃ W3, w2.alloc (.cells #[.int .i64 n.places, .slice A n.paths.length c, .int .i64 p.grade, .int .i64 p.load, .int .i64 p.pace.lo, .int .i64 p.pace.hi] 74) = W3 := ⟨_, rfl⟩
  have hx3 : Ext w2 W3 := hW3 ▸ (Ext.refl w2).alloc _
  have hs3 : w2.heap.size < W3.heap.size := by rw [← hW3]; simp
  have hwk3 : W3.heap[w2.heap.size]? = some (.cells #[.int .i64 n.places, .slice A n.paths.length c, .int .i64 p.grade, .int .i64 p.load, .int .i64 p.pace.lo, .int .i64 p.pace.hi] 74 (0, 0)) := by rw [← hW3]; exact heap_alloc_new _ _
  have hx13 : Ext W1 W3 := hx2.trans hx3
  have hx03 : Ext w W3 := hx02.trans hx3
  have h13 : W1.heap.size ≤ W3.heap.size := hx13.size
  have h12 : W1.heap.size ≤ w2.heap.size := hx2.size
  have hto3 := (hx13.block bT (by omega)).trans hto1
  have hrt3 := (hx13.block bR (by omega)).trans hrt1
  have har3 := (hx13.block bA (by omega)).trans har1
  clear hto1 hrt1 har1 tob
  -- the arrivals
  have toS : ∀ W, OnlyB bA W3 W → W.cell? ⟨bT, 0, none⟩ = some (.int .i64 to) := fun W h => by rw [h.cell (by omega) (by omega)]; simp [World.cell?, hto3]
  have wkS : ∀ W, OnlyB bA W3 W → ∀ j, W.cell? ⟨w2.heap.size, j, none⟩ = (#[.int .i64 n.places, .slice A n.paths.length c, .int .i64 p.grade, .int .i64 p.load, .int .i64 p.pace.lo, .int .i64 p.pace.hi] : Array Value)[j]? := fun W h j => by
    rw [h.cell (by omega) hs3]; simp [World.cell?, hwk3]
  gi_wp2_with fail
  clear hW3
  have hNp : (n.places.toNat : Int) = n.places := by omega
  have c1 : ∀ W, OnlyB bA W3 W → Calls Try.prog 29 #[.agg #[.int .i64 n.places, .slice A n.paths.length c, .int .i64 p.grade, .int .i64 p.load, .int .i64 p.pace.lo, .int .i64 p.pace.hi], .int .i64 frm, .int .i64 start, .int .i64 (-1), .func (.func 30) #[] #[]] W fun e w' => ∃ b l, e = .returned (.slice (some ⟨b, 0, none⟩) l.length l.length) ∧ W.heap.size ≤ b ∧ Row w' b l ∧ Arr n p true (-1) frm start l ∧ Ext W w' :=
    fun W h => paths_arrivals n p true (-1) frm start A B C c 30 W (HN.out.ext (OnlyB.ext hx03 h (by have := hx1.size; omega))) HOK.out HPK.out ⟨f1, f2⟩ ⟨s1, s2⟩ (enters_of Try.func30 (by kernel_rfl) rfl) paths_high
  have C1 := Lib.hid c1
  clear c1
  refine wpIn_wide.2 (Code.wp_mono (Q := fun e a' w' => match e with | .normal => ∃ b4 l w4, a' = ⟨#[.agg #[.int .i64 n.places, .slice A n.paths.length c], .agg #[.int .i64 p.grade, .int .i64 p.load, .int .i64 p.pace.lo, .int .i64 p.pace.hi], .int .i64 frm, .int .i64 start, .int .i64 to, .pointer (some ⟨w.heap.size, 0, none⟩), .pointer (some ⟨b1, 0, none⟩), undef, undef, .pointer (some ⟨bT, 0, none⟩), .pointer (some ⟨bR, 0, none⟩), .pointer (some ⟨bA, 0, none⟩), .int .i64 0, .pointer (some ⟨w2.heap.size, 0, none⟩), undef, undef, undef, undef, undef, undef, undef, undef, undef, undef, undef, .tuple #[.agg #[.int .i64 n.places, .slice A n.paths.length c, .int .i64 p.grade, .int .i64 p.load, .int .i64 p.pace.lo, .int .i64 p.pace.hi], .int .i64 0], .agg #[.int .i64 n.places, .slice A n.paths.length c], .agg #[.int .i64 p.grade, .int .i64 p.load, .int .i64 p.pace.lo, .int .i64 p.pace.hi], .int .i64 frm, .int .i64 to, .slice (some ⟨b5, 0, none⟩) 2 2, .int .i64 start, .slice (some ⟨b6, 0, none⟩) 1 1, .agg #[.slice (some ⟨b5, 0, none⟩) 2 2, .slice (some ⟨b6, 0, none⟩) 1 1], .tuple #[.agg #[.int .i64 n.places, .slice A n.paths.length c, .int .i64 p.grade, .int .i64 p.load, .int .i64 p.pace.lo, .int .i64 p.pace.hi], .int .i64 0], .agg #[.int .i64 n.places, .slice A n.paths.length c, .int .i64 p.grade, .int .i64 p.load, .int .i64 p.pace.lo, .int .i64 p.pace.hi], .int .i64 0, .int .i64 0, .bool false, undef, .agg #[.int .i64 n.places, .slice A n.paths.length c, .int .i64 p.grade, .int .i64 p.load, .int .i64 p.pace.lo, .int .i64 p.pace.hi], .int .i64 frm, .int .i64 start, .slice (some ⟨b4, 0, none⟩) l.length l.length, .int .i64 to, .pointer (some ⟨b4, to.toNat, none⟩), .int .i64 (nth l to.toNat), undef, undef, undef, undef, undef, undef, undef, undef, undef, undef, undef, undef, undef, undef, undef, undef, undef, undef, undef, undef, undef, undef, undef, undef, undef, undef, undef, undef, undef, undef, undef, undef, undef, undef, undef, undef, undef, undef, undef, undef, undef, undef, undef, undef, undef, undef, undef, undef, undef, undef, undef, undef, undef, undef, undef, undef, undef, undef, undef, undef, undef, undef, undef, undef, undef, undef, undef, undef, undef, undef, undef, undef, undef, undef, undef, undef, undef, undef, undef, undef, undef, undef, undef, undef, undef, undef, undef, undef, undef, undef, undef, undef, undef, undef, undef, undef, undef, undef, undef, undef, undef, undef, undef, undef, undef, undef, undef, undef, undef, undef, undef, undef, undef, undef, undef], []⟩ ∧ w' = w4.setCell ⟨bA, 0, none⟩ (.int .i64 (nth l to.toNat)) ∧ OnlyB bA W3 w4 ∧ Row w4 b4 l ∧ Arr n p true (-1) frm start l ∧ W3.heap.size ≤ b4 ∧ (∃ x, w4.heap[bA]? = some (.cells #[.int .i64 x] 3 (0, 0))) | _ => False) ?post ?reg)
  case reg =>
    have hxA : OnlyB bA W3 W3.drew := (OnlyB.refl _ _).drew
    go_region_with (go_at_call 29; refine (C1.out _ (by first | exact (OnlyB.refl _ _).drew | assumption)).mono ?_; rintro e w4 ⟨b4, l, rfl, hb4, hr4, ha4, hx4⟩; have ho4 : OnlyB bA W3 w4 := OnlyB.ext_ (by first | exact (OnlyB.refl _ _).drew | assumption) hx4; have c4 := hr4.cell (i := to.toNat) (by have := ha4.length; omega); have hl4 : to < (l.length : Int) := (by have := ha4.length; omega); have h4 : w4.heap[bA]? = some (.cells #[.int .i64 0] 3 (0, 0)) := (hx4.block bA (by simp; omega)).trans har3; have s4 : w4.cell? ⟨bA, 0, none⟩ = some (.int .i64 0) := (by simp [World.cell?, h4]); have z4 : w4.frozen? ⟨bA, 0, none⟩ = false := (by simp [World.frozen?, h4]))
    all_goals exact ⟨b4, l, w4, rfl, rfl, ho4, hr4, ha4, by simpa using hb4, 0, h4⟩
  case post =>
    intro e a' w' h
    cases e with
    | normal =>
      obtain ⟨b4, l, w4, rfl, rfl, ho4, hr4, ha4, hb4, x4, har4⟩ := h
      obtain ⟨arr, harr⟩ : ∃ arr, arr = nth l to.toNat := ⟨_, rfl⟩
      rw [← harr]
      have h4A : bA < w4.heap.size := by have := ho4.size; omega
      have hrt4 : w4.heap[bR]? = some (.cells #[.slice none 0 0] 29 (0, 0)) := (ho4.block bR (by omega) (by omega)).trans hrt3
      obtain ⟨W5, hW5⟩ : ∃ W5, w4.setCell ⟨bA, 0, none⟩ (.int .i64 arr) = W5 := ⟨_, rfl⟩
      have ho5 : OnlyB bA W3 W5 := hW5 ▸ ho4.setCell (.int .i64 arr)
      rw [hW5]
      have hA5 : W5.heap[bA]? = some (.cells #[.int .i64 arr] 3 (0, 0)) := by rw [← hW5]; simp [World.setCell, Array.getElem?_modify, har4]
      have hs5 : W3.heap.size ≤ W5.heap.size := ho5.size
      have hwk5 := (ho5.block w2.heap.size (by omega) hs3).trans hwk3
      have hto5 := (ho5.block bT (by omega) (by omega)).trans hto3
      have hrt5 := (ho5.block bR (by omega) (by omega)).trans hrt3
      have hx05 : Ext w W5 := OnlyB.ext hx03 ho5 (by have := hx1.size; omega)
      have hz5A : W5.frozen? ⟨bA, 0, none⟩ = false := by simp [World.frozen?, hA5]
      have hz5R : W5.frozen? ⟨bR, 0, none⟩ = false := by simp [World.frozen?, hrt5]
      have toE : ∀ W9, Ext W5 W9 → W9.cell? ⟨bT, 0, none⟩ = some (.int .i64 to) := fun W9 h => by rw [h.cell (by simp; omega)]; simp [World.cell?, hto5]
      have arE : ∀ W9, Ext W5 W9 → W9.cell? ⟨bA, 0, none⟩ = some (.int .i64 arr) := fun W9 h => by rw [h.cell (by simp; omega)]; simp [World.cell?, hA5]
      have rtE : ∀ W9, Ext W5 W9 → W9.cell? ⟨bR, 0, none⟩ = some (.slice none 0 0) := fun W9 h => by rw [h.cell (by simp; omega)]; simp [World.cell?, hrt5]
      have wkE : ∀ W9 j, Ext W5 W9 → W9.cell? ⟨w2.heap.size, j, none⟩ = (#[.int .i64 n.places, .slice A n.paths.length c, .int .i64 p.grade, .int .i64 p.load, .int .i64 p.pace.lo, .int .i64 p.pace.hi] : Array Value)[j]? := fun W9 j h => by rw [h.cell (by simp; omega)]; simp [World.cell?, hwk5]
      clear hW5
      have harB : -1 ≤ arr ∧ arr ≤ 1073741824 := by
        obtain ⟨⟨kk, hkk⟩, _⟩ := ha4
        have hg := good_rounds (hi := true) (but := -1) HOK.out HPK.out (good_startAt (n := n) (frm := frm) (start := start) (by omega) ⟨s1, s2⟩) kk
        rw [← hkk] at hg
        have h1 := hg.2.1 to.toNat (by rw [hg.1]; omega)
        have h2 := hg.2.2 to.toNat (by rw [hg.1]; omega)
        unfold neverN at h2
        omega
      have HA4 := Lib.hid ha4
      have HARR := Lib.hid harr
      clear ha4 harr hr4 har4 hrt4 ho4 toS wkS har3 hrt3 hto3 hwk3 C1
      by_cases hav : arr = 1073741824
      · subst hav
        have hbw : w.heap.size ≤ bR ∧ w.heap.size ≤ bA := by omega
        gi_wp2_with fail
        refine leaves_marks (n0 := w.heap.size) (v := .tuple #[.slice none 0 0, .int .i64 0, .int .i64 3]) [] _ trivial (by simp [MarksFrom]) (fun W hsh => ⟨results_route _ _ bR bA _ _ rfl rfl ?_ ?_, l, HA4.out, ?_, .inl ⟨HARR.out.symm, rfl⟩⟩)
        · have h1 : W.heap[bR]? = some (.cells #[.slice none 0 0] 29 (0, 0)) := hsh.cells _ _ (by rw [heap_set_other (by simp; omega)]; simp [World.setCell, Array.getElem?_modify, hrt5]) rfl
          simp [World.cell?, h1]
        · have h1 : W.heap[bA]? = some (.cells #[.int .i64 0] 3 (0, 0)) := hsh.cells _ _ (by simp [World.setCell, Array.getElem?_modify, hA5, show bR ≠ bA by omega]) rfl
          simp [World.cell?, h1]
        · exact Ext.trans_shut ((hx05.setCell (p := ⟨bR, 0, none⟩) hbw.1 _).setCell (p := ⟨bA, 0, none⟩) hbw.2 _) hsh
      · gi_wp2_with fail
        refine ⟨trivial, ?_⟩
        refine (callsIn_wide.2 (paths_steps n p frm start A B C c W5 (HN.out.ext hx05) HOK.out HPK.out ⟨f1, f2⟩ ⟨s1, s2⟩)).mono ?_
        rintro e w6 ⟨gS, capS, Rs, rfl, hRl, hSl, hRr, hx6⟩
        obtain ⟨N, hN⟩ : ∃ N, N = n.places.toNat := ⟨_, rfl⟩
        rw [← hN] at hSl hRl hRr ⊢
        have hNp' : (N : Int) = n.places := by omega
        have hfP : frm.toNat < n.places.toNat := by omega
        have hix := indexFunc_Row (some ⟨gS, 0, none⟩) N capS (fun k _ => .slice (some ⟨nth Rs k, 0, none⟩) N N) 40 #[.pointer (some ⟨bT, 0, none⟩), .pointer (some ⟨bA, 0, none⟩)] (fun k => nth (stepF n p frm start k) to.toNat == arr) w6 hSl (by omega) (enters_of Try.func40 (by kernel_rfl) rfl) (fun k hk W h => by
          have hl := (good_stepF HOK.out HPK.out hfP ⟨s1, s2⟩ k).1
          have h1 := paths_Route1 (stepF n p frm start k) (nth Rs k) bT bA to arr W ((hRr k hk).ext h) (toE W (hx6.trans h)) (arE W (hx6.trans h)) t1 (by omega)
          rw [hl, ← hN] at h1
          exact h1)
        have HIX := Lib.hid hix
        have HNN := Lib.hid hN
        clear hix hSl hRr hRl hN
        gi_wp2_with fail
        refine ⟨trivial, ?_⟩
        refine (callsIn_wide.2 HIX.out).mono ?_
        rintro e w7 ⟨r, rfl, hr, hx7⟩
        obtain ⟨m, hmN, rfl, hma, hmb⟩ : ∃ m : Nat, m < N ∧ r = m ∧ nth (stepF n p frm start m) to.toNat = arr ∧ ∀ j, j < m → nth (stepF n p frm start j) to.toNat ≠ arr := by
          rcases hr with ⟨rfl, h⟩ | ⟨k, h1, rfl, h2, h3⟩
          · obtain ⟨k, hk1, hk2⟩ := HFD.out l HA4.out (by rw [← HARR.out]; exact hav)
            have h' : (nth (stepF n p frm start k) to.toNat == arr) = false := h k (by rw [HNN.out]; exact hk1)
            rw [hk2, ← HARR.out] at h'
            simp at h'
          · exact ⟨k, h1, rfl, by simpa using h2, fun j hj => by simpa using h3 j hj⟩
        have HMA := Lib.hid hma
        have HMB := Lib.hid hmb
        clear hma hmb HIX
        have hmk := make_rows n m (by omega)
        obtain ⟨W8, hW8⟩ : ∃ W8, (w7.alloc (.cells (Array.replicate (m + 1) (Value.slice none 0 0)) 29)).alloc (.cells #[.slice (some ⟨w7.heap.size, 0, none⟩) (m + 1) (m + 1)] 91) = W8 := ⟨_, rfl⟩
        have hx8 : Ext w7 W8 := hW8 ▸ ((Ext.refl w7).alloc _).alloc _
        have hbb8 : W8.heap[w7.heap.size]? = some (.cells (List.replicate (m + 1) (Value.slice none 0 0)).toArray 29 (0, 0)) := by
          rw [← hW8, Below.heap_alloc _ _ _ (by simp), List.toArray_replicate]
          exact heap_alloc_new _ _
        have hby8 : W8.heap[w7.heap.size + 1]? = some (.cells #[.slice (some ⟨w7.heap.size, 0, none⟩) (m + 1) (m + 1)] 91 (0, 0)) := by rw [← hW8]; exact heap_alloc_new' (by simp)
        have hs8 : w7.heap.size + 1 < W8.heap.size := by rw [← hW8]; simp
        have hx58 : Ext W5 W8 := (hx6.trans hx7).trans hx8
        gi_wp2_with fail
        clear hW8 hmk
        have byE : ∀ W9, Ext W8 W9 → W9.cell? ⟨w7.heap.size + 1, 0, none⟩ = some (.slice (some ⟨w7.heap.size, 0, none⟩) (m + 1) (m + 1)) := fun W9 h => by rw [h.cell (by simp; omega)]; simp [World.cell?, hby8]
        have wkE8 : ∀ W9 j, Ext W8 W9 → W9.cell? ⟨w2.heap.size, j, none⟩ = (#[.int .i64 n.places, .slice A n.paths.length c, .int .i64 p.grade, .int .i64 p.load, .int .i64 p.pace.lo, .int .i64 p.pace.hi] : Array Value)[j]? := fun W9 j h => wkE W9 j (hx58.trans h)
        have hxd : Ext W8 W8.drew := (Ext.refl _).drew
        refine wpIn_wide.2 (Code.wp_mono (Q := fun e a' w' => match e with | .normal => ∃ nx w10, a' = ⟨#[.agg #[.int .i64 n.places, .slice A n.paths.length c], .agg #[.int .i64 p.grade, .int .i64 p.load, .int .i64 p.pace.lo, .int .i64 p.pace.hi], .int .i64 frm, .int .i64 start, .int .i64 to, .pointer (some ⟨w.heap.size, 0, none⟩), .pointer (some ⟨b1, 0, none⟩), undef, undef, .pointer (some ⟨bT, 0, none⟩), .pointer (some ⟨bR, 0, none⟩), .pointer (some ⟨bA, 0, none⟩), .int .i64 0, .pointer (some ⟨w2.heap.size, 0, none⟩), .int .i64 (m : Int), .pointer (some ⟨w7.heap.size + 1, 0, none⟩), undef, undef, undef, undef, undef, undef, undef, undef, undef, .tuple #[.agg #[.int .i64 n.places, .slice A n.paths.length c, .int .i64 p.grade, .int .i64 p.load, .int .i64 p.pace.lo, .int .i64 p.pace.hi], .int .i64 0], .agg #[.int .i64 n.places, .slice A n.paths.length c], .agg #[.int .i64 p.grade, .int .i64 p.load, .int .i64 p.pace.lo, .int .i64 p.pace.hi], .int .i64 frm, .int .i64 to, .slice (some ⟨b5, 0, none⟩) 2 2, .int .i64 start, .slice (some ⟨b6, 0, none⟩) 1 1, .agg #[.slice (some ⟨b5, 0, none⟩) 2 2, .slice (some ⟨b6, 0, none⟩) 1 1], .tuple #[.agg #[.int .i64 n.places, .slice A n.paths.length c, .int .i64 p.grade, .int .i64 p.load, .int .i64 p.pace.lo, .int .i64 p.pace.hi], .int .i64 0], .agg #[.int .i64 n.places, .slice A n.paths.length c, .int .i64 p.grade, .int .i64 p.load, .int .i64 p.pace.lo, .int .i64 p.pace.hi], .int .i64 0, .int .i64 0, .bool false, undef, .agg #[.int .i64 n.places, .slice A n.paths.length c, .int .i64 p.grade, .int .i64 p.load, .int .i64 p.pace.lo, .int .i64 p.pace.hi], .int .i64 frm, .int .i64 start, .slice (some ⟨b4, 0, none⟩) l.length l.length, .int .i64 to, .pointer (some ⟨b4, to.toNat, none⟩), .int .i64 arr, .int .i64 arr, .bool false, .agg #[.int .i64 n.places, .slice A n.paths.length c, .int .i64 p.grade, .int .i64 p.load, .int .i64 p.pace.lo, .int .i64 p.pace.hi], .int .i64 frm, .int .i64 start, .slice (some ⟨gS, 0, none⟩) N capS, .func (.func 40) #[] #[.pointer (some ⟨bT, 0, none⟩), .pointer (some ⟨bA, 0, none⟩)], .int .i64 (m : Int), .int .i64 (m : Int), .int .i64 ((m : Int) + 1), .slice (some ⟨w7.heap.size, 0, none⟩) (m + 1) (m + 1), .slice (some ⟨w7.heap.size, 0, none⟩) (m + 1) (m + 1), .slice (some ⟨W8.heap.size, 0, none⟩) 1 1, .pointer (some ⟨w2.heap.size, 0, none⟩), .pointer (some ⟨w2.heap.size, 0, none⟩), .int .i64 n.places, .slice (some ⟨nx, 0, none⟩) N N, .pointer (some ⟨w7.heap.size, 0, none⟩), undef, undef, undef, undef, undef, undef, undef, undef, undef, undef, undef, undef, undef, undef, undef, undef, undef, undef, undef, undef, undef, undef, undef, undef, undef, undef, undef, undef, undef, undef, undef, undef, undef, undef, undef, undef, undef, undef, undef, undef, undef, undef, undef, undef, undef, undef, undef, undef, undef, undef, undef, undef, undef, undef, undef, undef, undef, undef, undef, undef, undef, undef, undef, undef, undef, undef, undef, undef, undef, undef, undef, undef, undef, undef, undef, undef, undef, undef, undef, undef, undef, undef, undef, undef, undef, undef, undef, undef, undef, undef, undef, undef, undef, undef, undef, undef, undef], []⟩ ∧ w' = w10.setCell ⟨w7.heap.size, 0, none⟩ (.slice (some ⟨nx, 0, none⟩) N N) ∧ Row w10 nx (List.replicate N (-1)) ∧ Ext W8 w10 ∧ W8.heap.size ≤ nx | _ => False) ?post ?reg)
        case reg =>
          go_region_with (go_at_call 41; refine (slices_RepeatI _ 1 (-1) n.places _ (Row.ints (b := W8.heap.size) (by unfold Row; exact heap_alloc_new W8 _)) np1 (by omega)).mono ?_; rintro e w10 ⟨nx, rfl, hnx, hr10, hx10⟩; rw [← HNN.out] at hr10 ⊢; have hx8' : Ext W8 w10 := Ext.trans (Ext.drew (Ext.alloc (Ext.refl _) _)) hx10; have hb10 : w10.heap[w7.heap.size]? = some (.cells (List.replicate (m + 1) (Value.slice none 0 0)).toArray 29 (0, 0)) := (hx8'.block _ (by omega)).trans hbb8; have hc10 : w10.cell? ⟨w7.heap.size, 0, none⟩ = some (.slice none 0 0) := (by simp [World.cell?, hb10]); have hz10 : w10.frozen? ⟨w7.heap.size, 0, none⟩ = false := (by simp [World.frozen?, hb10]))
          all_goals exact ⟨nx, w10, rfl, rfl, hr10, hx8', by have h := hnx; simp at h; omega⟩
        case post =>
          intro e a' w' h
          cases e with
          | normal =>
            obtain ⟨nx, w10, rfl, rfl, hr10, hx810, hnx⟩ := h
            obtain ⟨W10, hW10⟩ : ∃ W10, w10.setCell ⟨w7.heap.size, 0, none⟩ (.slice (some ⟨nx, 0, none⟩) N N) = W10 := ⟨_, rfl⟩
            rw [hW10]
            have hbb0 := (hx810.block w7.heap.size (by omega)).trans hbb8
            have hbb10 : W10.heap[w7.heap.size]? = some (.cells (sls N [nx] ++ List.replicate m (Value.slice none 0 0)).toArray 29 (0, 0)) := by
              rw [← hW10]
              simp [World.setCell, Array.getElem?_modify, hbb0, sls, List.replicate_succ]
            have hs10 : W10.heap.size = w10.heap.size := by rw [← hW10]; simp [World.setCell]
            have hin8 : Inb w7.heap.size [w7.heap.size + 1] W8 := ⟨by omega, by simp; omega⟩
            have hk10 : KB w7.heap.size [w7.heap.size + 1] W8 W10 := by
              rw [← hW10]
              exact (KB.of_ext hin8 hx810).setCell (p := ⟨w7.heap.size, 0, none⟩) (Nat.le_refl _) (by simp) _
            have hr10' : Row W10 nx (List.replicate N (-1)) := by
              rw [← hW10]
              exact (heap_set_other (p := ⟨w7.heap.size, 0, none⟩) (by simp; omega)).trans hr10
            clear hW10 hr10 hbb0 byE wkE8 hxd
            have hx08 : Ext w W8 := hx05.trans hx58
            have h57 : W5.heap.size ≤ w7.heap.size := (hx6.trans hx7).size
            have hw7 : w.heap.size ≤ w7.heap.size := (hx05.trans (hx6.trans hx7)).size
            have toK : ∀ W9, KB w7.heap.size [w7.heap.size + 1] W8 W9 → W9.cell? ⟨bT, 0, none⟩ = some (.int .i64 to) := fun W9 h => (h.cell (.inl (by simp; omega))).trans (toE W8 hx58)
            have arK : ∀ W9, KB w7.heap.size [w7.heap.size + 1] W8 W9 → W9.cell? ⟨bA, 0, none⟩ = some (.int .i64 arr) := fun W9 h => (h.cell (.inl (by simp; omega))).trans (arE W8 hx58)
            have wkK : ∀ W9 j, KB w7.heap.size [w7.heap.size + 1] W8 W9 → W9.cell? ⟨w2.heap.size, j, none⟩ = (#[.int .i64 n.places, .slice A n.paths.length c, .int .i64 p.grade, .int .i64 p.load, .int .i64 p.pace.lo, .int .i64 p.pace.hi] : Array Value)[j]? := fun W9 j h => (h.cell (.inl (by simp; omega))).trans (wkE W8 j hx58)
            have byK : ∀ W9, KB w7.heap.size [w7.heap.size + 1] W8 W9 → W9.cell? ⟨w7.heap.size + 1, 0, none⟩ = some (.slice (some ⟨w7.heap.size, 0, none⟩) (m + 1) (m + 1)) := fun W9 h => (h.cell (.inr (by simp))).trans (by simp [World.cell?, hby8])
            have hxK : ∀ W9, KB w7.heap.size [w7.heap.size + 1] W8 W9 → Ext w W9 := fun W9 h => Below.trans hx08 (Below.mono h.below hw7)
            have hrtK : ∀ W9, KB w7.heap.size [w7.heap.size + 1] W8 W9 → W9.heap[bR]? = some (.cells #[.slice none 0 0] 29 (0, 0)) := fun W9 h => (h.block bR (.inl (by omega))).trans ((hx58.block bR (by omega)).trans hrt5)
            -- by[0][to] = arrival
            have toX : ∀ W9, Ext W10 W9 → W9.cell? ⟨bT, 0, none⟩ = some (.int .i64 to) := fun W9 h => toK W9 (hk10.ext_ hin8 h)
            have arX : ∀ W9, Ext W10 W9 → W9.cell? ⟨bA, 0, none⟩ = some (.int .i64 arr) := fun W9 h => arK W9 (hk10.ext_ hin8 h)
            have byX : ∀ W9, Ext W10 W9 → W9.cell? ⟨w7.heap.size + 1, 0, none⟩ = some (.slice (some ⟨w7.heap.size, 0, none⟩) (m + 1) (m + 1)) := fun W9 h => byK W9 (hk10.ext_ hin8 h)
            have b0X : ∀ W9, Ext W10 W9 → W9.cell? ⟨w7.heap.size, 0, none⟩ = some (.slice (some ⟨nx, 0, none⟩) N N) := fun W9 h => by
              rw [h.cell (Array.getElem?_eq_some_iff.1 hbb10).1]
              simp [World.cell?, hbb10, sls]
            have tN : to.toNat < N := by omega
            have tI : to < (N : Int) := by omega
            gi_wp2_with fail
            refine wpIn_region_ext_tail 6 (fun _ => trivial) rfl (fun h => callsIn_wide.2 h) (by kernel_rfl) (by kernel_rfl) ?_
            simp only [List.take_succ_cons, List.take_zero, List.drop_succ_cons, List.drop_zero]
            repeat (go_big_quiet_step (fail))
            refine wpQuiet_nil ?_
            rintro W11 hg
            have hx11 : Ext W10 W11 := by
              obtain ⟨g, rfl⟩ := hg
              exact ext_regrown W10 g.d g.os
            clear hg
            have hr11 := hr10'.ext hx11
            have hc11 := hr11.cell (i := to.toNat) (by simpa using tN)
            have hz11 := hr11.frozen to.toNat
            have hbb11 := (hx11.block w7.heap.size (Array.getElem?_eq_some_iff.1 hbb10).1).trans hbb10
            have hk11 := hk10.ext_ hin8 hx11
            obtain ⟨W12, hW12⟩ : ∃ W12, W11.setCell ⟨nx, to.toNat, none⟩ (.int .i64 arr) = W12 := ⟨_, rfl⟩
            have hr12 : Row W12 nx (byF n p to arr 0) := by
              have h := hr11.set to.toNat arr
              rw [hW12, HNN.out] at h
              exact h
            have hbb12 : W12.heap[w7.heap.size]? = some (.cells (sls N [nx] ++ List.replicate m (Value.slice none 0 0)).toArray 29 (0, 0)) := by
              rw [← hW12, heap_set_other (by simp; omega)]
              exact hbb11
            have hk12 : KB w7.heap.size [w7.heap.size + 1] W8 W12 := by
              rw [← hW12]
              exact hk11.setCell (p := ⟨nx, to.toNat, none⟩) (by simp; omega) (by simp; omega) _
            clear toX arX byX b0X hbb10 hbb11 hr10' hr11 hk10 hk11
            gi_wp2_with fail
            refine wpIn_loop (fun a W => ∃ (k : Nat) (u16 u73 u74 u75 u76 u77 u78 u79 u80 u81 u82 u83 u84 u85 u117 : Value) (Rs : List Nat) (ds : List Deferred), BySt n p to arr N w7.heap.size m W8 k Rs ds W ∧ k ≤ m ∧ a = ⟨#[.agg #[.int .i64 n.places, .slice A n.paths.length c], .agg #[.int .i64 p.grade, .int .i64 p.load, .int .i64 p.pace.lo, .int .i64 p.pace.hi], .int .i64 frm, .int .i64 start, .int .i64 to, .pointer (some ⟨w.heap.size, 0, none⟩), .pointer (some ⟨b1, 0, none⟩), undef, undef, .pointer (some ⟨bT, 0, none⟩), .pointer (some ⟨bR, 0, none⟩), .pointer (some ⟨bA, 0, none⟩), .int .i64 0, .pointer (some ⟨w2.heap.size, 0, none⟩), .int .i64 (m : Int), .pointer (some ⟨w7.heap.size + 1, 0, none⟩), u16, undef, undef, undef, undef, undef, undef, undef, undef, .tuple #[.agg #[.int .i64 n.places, .slice A n.paths.length c, .int .i64 p.grade, .int .i64 p.load, .int .i64 p.pace.lo, .int .i64 p.pace.hi], .int .i64 0], .agg #[.int .i64 n.places, .slice A n.paths.length c], .agg #[.int .i64 p.grade, .int .i64 p.load, .int .i64 p.pace.lo, .int .i64 p.pace.hi], .int .i64 frm, .int .i64 to, .slice (some ⟨b5, 0, none⟩) 2 2, .int .i64 start, .slice (some ⟨b6, 0, none⟩) 1 1, .agg #[.slice (some ⟨b5, 0, none⟩) 2 2, .slice (some ⟨b6, 0, none⟩) 1 1], .tuple #[.agg #[.int .i64 n.places, .slice A n.paths.length c, .int .i64 p.grade, .int .i64 p.load, .int .i64 p.pace.lo, .int .i64 p.pace.hi], .int .i64 0], .agg #[.int .i64 n.places, .slice A n.paths.length c, .int .i64 p.grade, .int .i64 p.load, .int .i64 p.pace.lo, .int .i64 p.pace.hi], .int .i64 0, .int .i64 0, .bool false, undef, .agg #[.int .i64 n.places, .slice A n.paths.length c, .int .i64 p.grade, .int .i64 p.load, .int .i64 p.pace.lo, .int .i64 p.pace.hi], .int .i64 frm, .int .i64 start, .slice (some ⟨b4, 0, none⟩) l.length l.length, .int .i64 to, .pointer (some ⟨b4, to.toNat, none⟩), .int .i64 arr, .int .i64 arr, .bool false, .agg #[.int .i64 n.places, .slice A n.paths.length c, .int .i64 p.grade, .int .i64 p.load, .int .i64 p.pace.lo, .int .i64 p.pace.hi], .int .i64 frm, .int .i64 start, .slice (some ⟨gS, 0, none⟩) N capS, .func (.func 40) #[] #[.pointer (some ⟨bT, 0, none⟩), .pointer (some ⟨bA, 0, none⟩)], .int .i64 (m : Int), .int .i64 (m : Int), .int .i64 ((m : Int) + 1), .slice (some ⟨w7.heap.size, 0, none⟩) (m + 1) (m + 1), .slice (some ⟨w7.heap.size, 0, none⟩) (m + 1) (m + 1), .slice (some ⟨W8.heap.size, 0, none⟩) 1 1, .pointer (some ⟨w2.heap.size, 0, none⟩), .pointer (some ⟨w2.heap.size, 0, none⟩), .int .i64 n.places, .slice (some ⟨nx, 0, none⟩) N N, .pointer (some ⟨w7.heap.size, 0, none⟩), .slice (some ⟨w7.heap.size, 0, none⟩) (m + 1) (m + 1), .pointer (some ⟨w7.heap.size, 0, none⟩), .slice (some ⟨nx, 0, none⟩) N N, .int .i64 to, .int .i64 arr, .pointer (some ⟨nx, to.toNat, none⟩), .int .i64 (m : Int), .int .i64 (k : Int), u73, u74, u75, u76, u77, u78, u79, u80, u81, u82, u83, u84, u85, undef, undef, undef, undef, undef, undef, undef, undef, undef, undef, undef, undef, undef, undef, undef, undef, undef, undef, undef, undef, undef, undef, undef, undef, undef, undef, undef, undef, undef, undef, undef, u117, undef, undef, undef, undef, undef, undef, undef, undef, undef, undef, undef, undef, undef, undef, undef, undef, undef, undef, undef, undef, undef, undef, undef, undef, undef, undef, undef, undef, undef, undef, undef, undef, undef, undef, undef, undef, undef, undef, undef, undef, undef, undef, undef, undef], ds⟩) (fun a _ => m - (intOf (a.tmps.getD 72 undef)).toNat) ?_ ?_
            · refine ⟨0, _, _, _, _, _, _, _, _, _, _, _, _, _, _, _, [nx], [], ⟨rfl, fun j hj => ?_, hbb12, hk12, trivial, by simp [MarksFrom]⟩, Nat.zero_le _, rfl⟩
              obtain rfl : j = 0 := by omega
              have e : nth [nx] 0 = nx := by simp [nth]
              rw [e]
              exact hr12
            · rintro a wo ⟨k, u16, u73, u74, u75, u76, u77, u78, u79, u80, u81, u82, u83, u84, u85, u117, Rs, ds, hst, hkm, rfl⟩
              have hwo8 : W8.heap.size ≤ wo.heap.size := hst.kb.size
              by_cases hk : k < m
              · obtain ⟨W13, hW13⟩ : ∃ W13, wo.alloc (.cells #[.int .i64 (k : Int)] 3) = W13 := ⟨_, rfl⟩
                have hx13 : Ext wo W13 := hW13 ▸ (Ext.refl wo).alloc _
                have hkb13 : W13.heap[wo.heap.size]? = some (.cells #[.int .i64 (k : Int)] 3 (0, 0)) := by rw [← hW13]; exact heap_alloc_new _ _
                have hs13 : wo.heap.size < W13.heap.size := by rw [← hW13]; simp
                have hkk13 := hst.kb.ext_ hin8 hx13
                have hkI : (k : Int) < (m : Int) := by omega
                have HST := Lib.hid hst
                clear hst
                gi_wp2_with fail
                clear hW13
                have hbb13 := (hx13.block w7.heap.size (by omega)).trans HST.out.tab
                have byX : ∀ W9, Ext W13 W9 → W9.cell? ⟨w7.heap.size + 1, 0, none⟩ = some (.slice (some ⟨w7.heap.size, 0, none⟩) (m + 1) (m + 1)) := fun W9 h => byK W9 (hkk13.ext_ hin8 h)
                have wkX : ∀ W9 j, Ext W13 W9 → W9.cell? ⟨w2.heap.size, j, none⟩ = (#[.int .i64 n.places, .slice A n.paths.length c, .int .i64 p.grade, .int .i64 p.load, .int .i64 p.pace.lo, .int .i64 p.pace.hi] : Array Value)[j]? := fun W9 j h => wkK W9 j (hkk13.ext_ hin8 h)
                have kX : ∀ W9, Ext W13 W9 → W9.cell? ⟨wo.heap.size, 0, none⟩ = some (.int .i64 (k : Int)) := fun W9 h => by
                  rw [h.cell hs13]
                  simp [World.cell?, hkb13]
                have hxd : Ext W13 W13.drew := (Ext.refl _).drew
                have htl : (sls N Rs ++ List.replicate (m - k) (Value.slice none 0 0))[k + 1]? = some (.slice none 0 0) := by
                  have hl : (sls N Rs).length = k + 1 := by simp [sls, HST.out.len]
                  have hle : (sls N Rs).length ≤ k + 1 := by rw [hl]; exact Nat.le_refl _
                  rw [List.getElem?_append_right hle, hl, Nat.sub_self, List.getElem?_replicate, if_pos (by omega)]
                refine wpIn_wide.2 (Code.wp_mono (Q := fun e a' w' => match e with | .normal => ∃ nx2 w14, a' = ⟨#[.agg #[.int .i64 n.places, .slice A n.paths.length c], .agg #[.int .i64 p.grade, .int .i64 p.load, .int .i64 p.pace.lo, .int .i64 p.pace.hi], .int .i64 frm, .int .i64 start, .int .i64 to, .pointer (some ⟨w.heap.size, 0, none⟩), .pointer (some ⟨b1, 0, none⟩), undef, undef, .pointer (some ⟨bT, 0, none⟩), .pointer (some ⟨bR, 0, none⟩), .pointer (some ⟨bA, 0, none⟩), .int .i64 0, .pointer (some ⟨w2.heap.size, 0, none⟩), .int .i64 (m : Int), .pointer (some ⟨w7.heap.size + 1, 0, none⟩), .pointer (some ⟨wo.heap.size, 0, none⟩), undef, undef, undef, undef, undef, undef, undef, undef, .tuple #[.agg #[.int .i64 n.places, .slice A n.paths.length c, .int .i64 p.grade, .int .i64 p.load, .int .i64 p.pace.lo, .int .i64 p.pace.hi], .int .i64 0], .agg #[.int .i64 n.places, .slice A n.paths.length c], .agg #[.int .i64 p.grade, .int .i64 p.load, .int .i64 p.pace.lo, .int .i64 p.pace.hi], .int .i64 frm, .int .i64 to, .slice (some ⟨b5, 0, none⟩) 2 2, .int .i64 start, .slice (some ⟨b6, 0, none⟩) 1 1, .agg #[.slice (some ⟨b5, 0, none⟩) 2 2, .slice (some ⟨b6, 0, none⟩) 1 1], .tuple #[.agg #[.int .i64 n.places, .slice A n.paths.length c, .int .i64 p.grade, .int .i64 p.load, .int .i64 p.pace.lo, .int .i64 p.pace.hi], .int .i64 0], .agg #[.int .i64 n.places, .slice A n.paths.length c, .int .i64 p.grade, .int .i64 p.load, .int .i64 p.pace.lo, .int .i64 p.pace.hi], .int .i64 0, .int .i64 0, .bool false, undef, .agg #[.int .i64 n.places, .slice A n.paths.length c, .int .i64 p.grade, .int .i64 p.load, .int .i64 p.pace.lo, .int .i64 p.pace.hi], .int .i64 frm, .int .i64 start, .slice (some ⟨b4, 0, none⟩) l.length l.length, .int .i64 to, .pointer (some ⟨b4, to.toNat, none⟩), .int .i64 arr, .int .i64 arr, .bool false, .agg #[.int .i64 n.places, .slice A n.paths.length c, .int .i64 p.grade, .int .i64 p.load, .int .i64 p.pace.lo, .int .i64 p.pace.hi], .int .i64 frm, .int .i64 start, .slice (some ⟨gS, 0, none⟩) N capS, .func (.func 40) #[] #[.pointer (some ⟨bT, 0, none⟩), .pointer (some ⟨bA, 0, none⟩)], .int .i64 (m : Int), .int .i64 (m : Int), .int .i64 ((m : Int) + 1), .slice (some ⟨w7.heap.size, 0, none⟩) (m + 1) (m + 1), .slice (some ⟨w7.heap.size, 0, none⟩) (m + 1) (m + 1), .slice (some ⟨W8.heap.size, 0, none⟩) 1 1, .pointer (some ⟨w2.heap.size, 0, none⟩), .pointer (some ⟨w2.heap.size, 0, none⟩), .int .i64 n.places, .slice (some ⟨nx, 0, none⟩) N N, .pointer (some ⟨w7.heap.size, 0, none⟩), .slice (some ⟨w7.heap.size, 0, none⟩) (m + 1) (m + 1), .pointer (some ⟨w7.heap.size, 0, none⟩), .slice (some ⟨nx, 0, none⟩) N N, .int .i64 to, .int .i64 arr, .pointer (some ⟨nx, to.toNat, none⟩), .int .i64 (m : Int), .int .i64 (k : Int), .bool true, .int .i64 (k : Int), .slice (some ⟨w7.heap.size, 0, none⟩) (m + 1) (m + 1), .int .i64 (k : Int), .int .i64 ((k : Int) + 1), .slice (some ⟨W13.heap.size, 0, none⟩) 1 1, .pointer (some ⟨w2.heap.size, 0, none⟩), .pointer (some ⟨w2.heap.size, 0, none⟩), .int .i64 n.places, .slice (some ⟨nx2, 0, none⟩) N N, .pointer (some ⟨w7.heap.size, k + 1, none⟩), u84, u85, undef, undef, undef, undef, undef, undef, undef, undef, undef, undef, undef, undef, undef, undef, undef, undef, undef, undef, undef, undef, undef, undef, undef, undef, undef, undef, undef, undef, undef, undef, undef, u117, undef, undef, undef, undef, undef, undef, undef, undef, undef, undef, undef, undef, undef, undef, undef, undef, undef, undef, undef, undef, undef, undef, undef, undef, undef, undef, undef, undef, undef, undef, undef, undef, undef, undef, undef, undef, undef, undef, undef, undef, undef, undef, undef, undef], ds⟩ ∧ w' = w14.setCell ⟨w7.heap.size, k + 1, none⟩ (.slice (some ⟨nx2, 0, none⟩) N N) ∧ Row w14 nx2 (List.replicate N (-1)) ∧ Ext W13 w14 ∧ W13.heap.size ≤ nx2 | _ => False) ?post ?reg)
                case reg =>
                  have hb7 : w7.heap.size < W13.heap.size := by omega
                  have np3 : n.places ≤ 1000 := by omega
                  have e0 : IntKind.i64.wrap ((k : Int) + 1) = (k : Int) + 1 := IntWalk.i64_in _ (by omega)
                  have e1 : (0 : Int) ≤ (k : Int) + 1 := by omega
                  have e2 : (k : Int) + 1 < ((m + 1 : Nat) : Int) := by omega
                  have e4 : (k : Int) + 1 < (m : Int) + 1 := by omega
                  have e3 : ((k : Int) + 1).toNat = k + 1 := by omega
                  have byS : ∀ W, OnlyB w7.heap.size W13 W → W.cell? ⟨w7.heap.size + 1, 0, none⟩ = some (.slice (some ⟨w7.heap.size, 0, none⟩) (m + 1) (m + 1)) := fun W h => (h.cell (by omega) (by omega)).trans (byX W13 (Ext.refl _))
                  have wkS : ∀ W j, OnlyB w7.heap.size W13 W → W.cell? ⟨w2.heap.size, j, none⟩ = (#[.int .i64 n.places, .slice A n.paths.length c, .int .i64 p.grade, .int .i64 p.load, .int .i64 p.pace.lo, .int .i64 p.pace.hi] : Array Value)[j]? := fun W j h => (h.cell (by omega) (by omega)).trans (wkX W13 j (Ext.refl _))
                  have kS : ∀ W, OnlyB w7.heap.size W13 W → W.cell? ⟨wo.heap.size, 0, none⟩ = some (.int .i64 (k : Int)) := fun W h => (h.cell (by omega) hs13).trans (kX W13 (Ext.refl _))
                  have hxd' : OnlyB w7.heap.size W13 W13.drew := (OnlyB.refl _ _).drew
                  go_region_held3 (fun w' => OnlyB w7.heap.size W13 w') (first | exact (OnlyB.refl _ _).drew | assumption | exact OnlyB.setCell (by assumption) _ | exact OnlyB.ext_ (by assumption) ((Ext.refl _).alloc _))
                    (first
                      | (go_at_call 41; refine (slices_RepeatI _ 1 (-1) n.places _ (Row.ints (b := W13.heap.size) (by unfold Row; exact heap_alloc_new W13 _)) np1 np3).mono ?_; rintro e w14 ⟨nx2, rfl, hnx2, hr14, hx14⟩; rw [← HNN.out] at hr14 ⊢; have ho14 : OnlyB w7.heap.size W13 w14 := OnlyB.ext_ (by assumption) hx14; have hx14' : Ext W13 w14 := Ext.trans (by first | exact Ext.drew (Ext.alloc (Ext.refl _) _) | exact Ext.alloc (Ext.drew (Ext.refl _)) _) hx14; have hb14 : w14.heap[w7.heap.size]? = some (.cells (sls N Rs ++ List.replicate (m - k) (Value.slice none 0 0)).toArray 29 (0, 0)) := (hx14'.block _ hb7).trans hbb13; have hc14 : w14.cell? ⟨w7.heap.size, k + 1, none⟩ = some (.slice none 0 0) := (by rw [cell_of_row _ _ _ _ _ _ hb14]; simpa using htl); have hz14 : w14.frozen? ⟨w7.heap.size, k + 1, none⟩ = false := (by simp [World.frozen?, hb14])))
                  exact ⟨nx2, w14, rfl, rfl, hr14, hx14', by have h := hnx2; simp at h; omega⟩
                case post =>
                  intro e a' w' h
                  cases e with
                  | normal =>
                    obtain ⟨nx2, w14, rfl, rfl, hr14, hx14, hnx2⟩ := h
                    obtain ⟨W15, hW15⟩ : ∃ W15, w14.setCell ⟨w7.heap.size, k + 1, none⟩ (.slice (some ⟨nx2, 0, none⟩) N N) = W15 := ⟨_, rfl⟩
                    rw [hW15]
                    have hx014 : Ext wo w14 := hx13.trans hx14
                    have hb14 := (hx14.block w7.heap.size (by omega)).trans hbb13
                    have htab : W15.heap[w7.heap.size]? = some (.cells (sls N (Rs ++ [nx2]) ++ List.replicate (m - (k + 1)) (Value.slice none 0 0)).toArray 29 (0, 0)) := by
                      rw [← hW15, ← tab_set HST.out.len hk]
                      simp [World.setCell, Array.getElem?_modify, hb14]
                    have hs15 : W15.heap.size = w14.heap.size := by rw [← hW15]; simp [World.setCell]
                    have hk15 : KB w7.heap.size [w7.heap.size + 1] W8 W15 := by
                      rw [← hW15]
                      exact (hkk13.ext_ hin8 hx14).setCell (p := ⟨w7.heap.size, k + 1, none⟩) (Nat.le_refl _) (by simp) _
                    have hsm15 : ∀ r, r ≠ w7.heap.size → W15.heap[r]? = w14.heap[r]? := fun r hr => by
                      rw [← hW15]
                      exact heap_set_other (p := ⟨w7.heap.size, k + 1, none⟩) hr
                    have hr15 : Row W15 nx2 (List.replicate N (-1)) := (hsm15 nx2 (by omega)).trans hr14
                    have hkb15 : W15.heap[wo.heap.size]? = some (.cells #[.int .i64 (k : Int)] 3 (0, 0)) := (hsm15 _ (by omega)).trans ((hx14.block _ hs13).trans hkb13)
                    have hrow15 : ∀ j, j < k + 1 → Row W15 (nth Rs j) (byF n p to arr j) := fun j hj => by
                      have h := HST.out.rows j hj
                      exact (hsm15 _ (row_ne h HST.out.tab (by decide))).trans (h.ext hx014)
                    have hlt15 : W13.heap.size ≤ W15.heap.size := by have h := hx14.size; omega
                    have hnx15 : nx2 < W15.heap.size := hr15.lt
                    have hsmk : ∀ E, E < wo.heap.size → E ≠ w7.heap.size → W15.heap[E]? = wo.heap[E]? := fun E h1 h2 => (hsm15 E h2).trans (hx014.block E h1)
                    clear hW15 hb14 hr14 byX wkX kX htl hxd hbb13 hsm15 hs15
                    have wkX : ∀ W9 j, Ext W15 W9 → W9.cell? ⟨w2.heap.size, j, none⟩ = (#[.int .i64 n.places, .slice A n.paths.length c, .int .i64 p.grade, .int .i64 p.load, .int .i64 p.pace.lo, .int .i64 p.pace.hi] : Array Value)[j]? := fun W9 j h => wkK W9 j (hk15.ext_ hin8 h)
                    have hw := fun W => paths_ways n p A c (-1) W
                    have HW := Lib.hid hw
                    clear hw
                    gi_wp2_with fail
                    refine ⟨trivial, ?_⟩
                    refine (callsIn_wide.2 (HW.out _)).mono ?_
                    rintro e w16 ⟨rfl, hw16⟩
                    have hx16 : Ext W15 w16 := hw16 ▸ ((Ext.refl W15).alloc _).alloc _
                    have hs16 : W15.heap.size + 1 < w16.heap.size := by rw [← hw16]; simp
                    have y : ∀ W9 j, Ext w16 W9 → W9.cell? ⟨W15.heap.size, j, none⟩ = (#[.int .i64 n.places, .slice A n.paths.length c, .int .i64 p.grade, .int .i64 p.load, .int .i64 p.pace.lo, .int .i64 p.pace.hi] : Array Value)[j]? := fun W9 j h => by rw [h.cell (by rw [← hw16]; simp only [World.size_alloc]; omega), ← hw16]; simp [go_sem]
                    have x : ∀ W9 j, Ext w16 W9 → W9.cell? ⟨W15.heap.size + 1, j, none⟩ = (#[.int .i64 (-1)] : Array Value)[j]? := fun W9 j h => by rw [h.cell (by rw [← hw16]; simp only [World.size_alloc]; omega), ← hw16]; simp [go_sem]
                    have hk16 := hk15.ext_ hin8 hx16
                    have hxw16 : Ext w w16 := hxK w16 hk16
                    have hrow16 : Row w16 nx2 (List.replicate N (-1)) := hr15.ext hx16
                    have hinb16 : Inb w.heap.size [W15.heap.size, W15.heap.size + 1] w16 := ⟨hxw16.size, by intro k hk; simp only [List.mem_cons, List.not_mem_nil, or_false] at hk; omega⟩
                    have hput16 : ∀ (W : World) (l : Nat) (o o' : Obj), w16.heap.size ≤ l → W.heap[l]? = some o → o.isCells = false → o.isWalk = false → KB w.heap.size [W15.heap.size, W15.heap.size + 1] W (W.putObj l o') := fun W l o o' hl _ _ _ => (KB.refl _ _ _).putObj (Nat.le_trans hxw16.size hl) (by simp only [List.mem_cons, List.not_mem_nil, or_false]; omega) o'
                    have hAx16 : ∀ (T : Nat → Act) (x : Pix n) (a' : Act), OwnFrom w16.heap.size (fun (_ : Unit) W => ∃ Bx, W.heap[Bx]? = some (.cells (vPth B C n.paths x.1).cells 34 (0, 0)) ∧ a' = T Bx) :=
                      fun T x a' _ W W' row ⟨Bx, h1, h2⟩ hg hr => ⟨Bx, (hg.block Bx (Array.getElem?_eq_some_iff.1 h1).1 (fun e => by obtain ⟨_, o, ho, hc⟩ := hr Bx e.symm; rw [h1] at ho; cases ho; cases hc)).trans h1, h2⟩
                    gi_wp2_with fail
                    refine wpIn_rangeFunc_ownH rfl (by omega) (gf := 65) (lb := #[.pointer (some ⟨W15.heap.size, 0, none⟩), .pointer (some ⟨W15.heap.size + 1, 0, none⟩)]) rfl trivial (enters_of Try.func65 (by kernel_rfl) rfl)
                      (ways_stops n p A B C c (-1) W15.heap.size (W15.heap.size + 1) 4 w w16 HN.out (by omega) hxw16 hinb16 (fun j => y w16 j (Ext.refl _)) (by rw [x w16 0 (Ext.refl _)]; rfl))
                      KB.trans hput16 (Below.refl _ _) (fun _ => rfl)
                      (RowI (fun pre => backL p (byF n p to arr k) (List.replicate N (-1)) pre) w16 nx2) (fun _ _ _ => False)
                      (RowI.own (Nat.le_refl _)) (fun _ _ _ _ _ h _ _ => h) ⟨OnlyB.refl _ _, hrow16⟩
                      (fun x a' W => ∃ Bx, W.heap[Bx]? = some (.cells (vPth B C n.paths x.1).cells 34 (0, 0)) ∧ a' = ⟨#[.agg #[.int .i64 n.places, .slice A n.paths.length c], .agg #[.int .i64 p.grade, .int .i64 p.load, .int .i64 p.pace.lo, .int .i64 p.pace.hi], .int .i64 frm, .int .i64 start, .int .i64 to, .pointer (some ⟨w.heap.size, 0, none⟩), .pointer (some ⟨b1, 0, none⟩), undef, undef, .pointer (some ⟨bT, 0, none⟩), .pointer (some ⟨bR, 0, none⟩), .pointer (some ⟨bA, 0, none⟩), .int .i64 0, .pointer (some ⟨w2.heap.size, 0, none⟩), .int .i64 (m : Int), .pointer (some ⟨w7.heap.size + 1, 0, none⟩), .pointer (some ⟨wo.heap.size, 0, none⟩), .int .i64 (x.1 : Int), .pointer (some ⟨Bx, 0, none⟩), undef, undef, undef, undef, undef, undef, .tuple #[.agg #[.int .i64 n.places, .slice A n.paths.length c, .int .i64 p.grade, .int .i64 p.load, .int .i64 p.pace.lo, .int .i64 p.pace.hi], .int .i64 0], .agg #[.int .i64 n.places, .slice A n.paths.length c], .agg #[.int .i64 p.grade, .int .i64 p.load, .int .i64 p.pace.lo, .int .i64 p.pace.hi], .int .i64 frm, .int .i64 to, .slice (some ⟨b5, 0, none⟩) 2 2, .int .i64 start, .slice (some ⟨b6, 0, none⟩) 1 1, .agg #[.slice (some ⟨b5, 0, none⟩) 2 2, .slice (some ⟨b6, 0, none⟩) 1 1], .tuple #[.agg #[.int .i64 n.places, .slice A n.paths.length c, .int .i64 p.grade, .int .i64 p.load, .int .i64 p.pace.lo, .int .i64 p.pace.hi], .int .i64 0], .agg #[.int .i64 n.places, .slice A n.paths.length c, .int .i64 p.grade, .int .i64 p.load, .int .i64 p.pace.lo, .int .i64 p.pace.hi], .int .i64 0, .int .i64 0, .bool false, undef, .agg #[.int .i64 n.places, .slice A n.paths.length c, .int .i64 p.grade, .int .i64 p.load, .int .i64 p.pace.lo, .int .i64 p.pace.hi], .int .i64 frm, .int .i64 start, .slice (some ⟨b4, 0, none⟩) l.length l.length, .int .i64 to, .pointer (some ⟨b4, to.toNat, none⟩), .int .i64 arr, .int .i64 arr, .bool false, .agg #[.int .i64 n.places, .slice A n.paths.length c, .int .i64 p.grade, .int .i64 p.load, .int .i64 p.pace.lo, .int .i64 p.pace.hi], .int .i64 frm, .int .i64 start, .slice (some ⟨gS, 0, none⟩) N capS, .func (.func 40) #[] #[.pointer (some ⟨bT, 0, none⟩), .pointer (some ⟨bA, 0, none⟩)], .int .i64 (m : Int), .int .i64 (m : Int), .int .i64 ((m : Int) + 1), .slice (some ⟨w7.heap.size, 0, none⟩) (m + 1) (m + 1), .slice (some ⟨w7.heap.size, 0, none⟩) (m + 1) (m + 1), .slice (some ⟨W8.heap.size, 0, none⟩) 1 1, .pointer (some ⟨w2.heap.size, 0, none⟩), .pointer (some ⟨w2.heap.size, 0, none⟩), .int .i64 n.places, .slice (some ⟨nx, 0, none⟩) N N, .pointer (some ⟨w7.heap.size, 0, none⟩), .slice (some ⟨w7.heap.size, 0, none⟩) (m + 1) (m + 1), .pointer (some ⟨w7.heap.size, 0, none⟩), .slice (some ⟨nx, 0, none⟩) N N, .int .i64 to, .int .i64 arr, .pointer (some ⟨nx, to.toNat, none⟩), .int .i64 (m : Int), .int .i64 (k : Int), .bool true, .int .i64 (k : Int), .slice (some ⟨w7.heap.size, 0, none⟩) (m + 1) (m + 1), .int .i64 (k : Int), .int .i64 ((k : Int) + 1), .slice (some ⟨W13.heap.size, 0, none⟩) 1 1, .pointer (some ⟨w2.heap.size, 0, none⟩), .pointer (some ⟨w2.heap.size, 0, none⟩), .int .i64 n.places, .slice (some ⟨nx2, 0, none⟩) N N, .pointer (some ⟨w7.heap.size, k + 1, none⟩), .agg #[.int .i64 n.places, .slice A n.paths.length c, .int .i64 p.grade, .int .i64 p.load, .int .i64 p.pace.lo, .int .i64 p.pace.hi], .func (.func 65) #[] #[.pointer (some ⟨W15.heap.size, 0, none⟩), .pointer (some ⟨W15.heap.size + 1, 0, none⟩)], .int .i64 (x.1 : Int), vPth B C n.paths x.1, undef, undef, undef, undef, undef, undef, undef, undef, undef, undef, undef, undef, undef, undef, undef, undef, undef, undef, undef, undef, undef, undef, undef, undef, undef, undef, undef, undef, undef, u117, undef, undef, undef, undef, undef, undef, undef, undef, undef, undef, undef, undef, undef, undef, undef, undef, undef, undef, undef, undef, undef, undef, undef, undef, undef, undef, undef, undef, undef, undef, undef, undef, undef, undef, undef, undef, undef, undef, undef, undef, undef, undef, undef, undef], []⟩)
                      (fun x a' => hAx16 _ x a')
                      ?assign ?body ?done ?stop
                    case assign =>
                      intro l pre x W K hI hK
                      have hWs : w16.heap.size ≤ W.heap.size := hI.size
                      have hiW : Inb w.heap.size [W15.heap.size, W15.heap.size + 1] W := ⟨Nat.le_trans hinb16.low hWs, fun k hk => Nat.lt_of_lt_of_le (hinb16.own k hk) hWs⟩
                      gi_wp2
                      exact hK _ _ (keepsFrom_ext (KeepsFrom.refl _ _) ((Ext.refl W).alloc _)) ((KB.refl _ _ _).alloc hiW _) (hI.ext_ ((Ext.refl W).alloc _)) ⟨W.heap.size, heap_alloc_new _ _, rfl⟩
                    case body =>
                      intro l pre x a' W hl hlr hI hA hpl
                      obtain ⟨Bx, hbx, rfl⟩ := hA
                      obtain ⟨hob, hrw1⟩ := hI
                      have harrb : -1 ≤ arr ∧ arr ≤ 1073741824 := harB
                      have tPl : to.toNat < n.places.toNat := by omega
                      have hg0 := good3_byF (n := n) (p := p) (to := to) (arr := arr) HOK.out HPK.out tPl harrb k
                      have hgood := good3_backL HOK.out HPK.out hg0 pre (good3_minus n)
                      rw [← HNN.out] at hgood
                      dsimp only at hrw1
                      generalize hLe : backL p (byF n p to arr k) (List.replicate N (-1)) pre = L at *
                      have HLE := Lib.hid hLe
                      have HG0 := Lib.hid hg0
                      have HG := Lib.hid hgood
                      clear hLe hgood hg0
                      obtain ⟨i, hil⟩ := x
                      dsimp only [vPth, Value.cells] at hbx
                      obtain ⟨⟨F0, F1⟩, ⟨D0, D1⟩, _, _, _, _, olen, _⟩ := pathOk_iff.1 (HALL.out _ (nth_mem hil))
                      have hNI := HNN.out
                      have F2 : (nth n.paths i).frm.toNat < N := by omega
                      have F3 : (nth n.paths i).frm < (N : Int) := by omega
                      have D2 : (nth n.paths i).dst.toNat < N := by omega
                      have D3 : (nth n.paths i).dst < (N : Int) := by omega
                      have hLl : L.length = N := by rw [HG.out.1, hNI]
                      have hMl : (byF n p to arr k).length = N := by rw [HG0.out.1, hNI]
                      have hrk := hrow15 k (by omega)
                      have hrkl := hrk.lt
                      have hblk : ∀ W9 (r j : Nat), r ≠ nx2 → r < W15.heap.size → Ext W W9 → W9.cell? ⟨r, j, none⟩ = W15.cell? ⟨r, j, none⟩ := fun W9 r j h1 h2 h => by
                        rw [h.cell (Nat.lt_of_lt_of_le h2 (Nat.le_trans hx16.size hob.size)), World.cell?_of_block (w := w16) (hob.block r h1 (Nat.lt_of_lt_of_le h2 hx16.size))]
                        exact hx16.cell h2
                      have hRl := HST.out.len
                      have hsl1 : (sls N (Rs ++ [nx2])).length = k + 2 := by simp [sls, hRl]
                      have ht1 : (sls N (Rs ++ [nx2]) ++ List.replicate (m - (k + 1)) (Value.slice none 0 0))[k + 1]? = some (.slice (some ⟨nx2, 0, none⟩) N N) := by
                        rw [List.getElem?_append_left (by rw [hsl1]; omega)]
                        simp [sls, hRl]
                      have ht0 : (sls N (Rs ++ [nx2]) ++ List.replicate (m - (k + 1)) (Value.slice none 0 0))[k]? = some (.slice (some ⟨nth Rs k, 0, none⟩) N N) := by
                        have hkl : k < Rs.length := by rw [hRl]; exact Nat.lt_succ_self k
                        rw [List.getElem?_append_left (by rw [hsl1]; omega), nth_eq hkl, sls, List.map_append, List.getElem?_append_left (by simpa using hkl), List.getElem?_map, List.getElem?_eq_getElem hkl]
                        rfl
                      have h7lt : w7.heap.size + 1 < W15.heap.size := by omega
                      have wkB : ∀ W9 j, Ext W W9 → W9.cell? ⟨w2.heap.size, j, none⟩ = (#[.int .i64 n.places, .slice A n.paths.length c, .int .i64 p.grade, .int .i64 p.load, .int .i64 p.pace.lo, .int .i64 p.pace.hi] : Array Value)[j]? := fun W9 j h => by
                        rw [hblk W9 _ _ (by omega) (by omega) h]
                        exact wkX W15 j (Ext.refl _)
                      have byB : ∀ W9, Ext W W9 → W9.cell? ⟨w7.heap.size + 1, 0, none⟩ = some (.slice (some ⟨w7.heap.size, 0, none⟩) (m + 1) (m + 1)) := fun W9 h => by
                        rw [hblk W9 _ _ (by omega) h7lt h]
                        exact byK W15 hk15
                      have kB : ∀ W9, Ext W W9 → W9.cell? ⟨wo.heap.size, 0, none⟩ = some (.int .i64 (k : Int)) := fun W9 h => by
                        rw [hblk W9 _ _ (by omega) (by omega) h]
                        simp [World.cell?, hkb15]
                      have t1B : ∀ W9, Ext W W9 → W9.cell? ⟨w7.heap.size, k + 1, none⟩ = some (.slice (some ⟨nx2, 0, none⟩) N N) := fun W9 h => by
                        rw [hblk W9 _ _ (by omega) (by omega) h, cell_of_row _ _ _ _ _ _ htab]
                        simpa using ht1
                      have t0B : ∀ W9, Ext W W9 → W9.cell? ⟨w7.heap.size, k, none⟩ = some (.slice (some ⟨nth Rs k, 0, none⟩) N N) := fun W9 h => by
                        rw [hblk W9 _ _ (by omega) (by omega) h, cell_of_row _ _ _ _ _ _ htab]
                        simpa using ht0
                      have hrkne : nth Rs k ≠ nx2 := by
                        have := (HST.out.rows k (by omega)).lt
                        omega
                      have rD : ∀ W9, Ext W W9 → W9.cell? ⟨nth Rs k, (nth n.paths i).dst.toNat, none⟩ = some (.int .i64 (nth (byF n p to arr k) (nth n.paths i).dst.toNat)) := fun W9 h => by
                        rw [hblk W9 _ _ hrkne hrkl h]
                        exact hrk.cell (by omega)
                      have rF : ∀ W9, Ext W W9 → W9.cell? ⟨nx2, (nth n.paths i).frm.toNat, none⟩ = some (.int .i64 (nth L (nth n.paths i).frm.toNat)) := fun W9 h => (hrw1.ext h).cell (by omega)
                      have xW : ∀ W9 j, Ext W W9 → W9.cell? ⟨Bx, j, none⟩ = (#[.int .i64 (nth n.paths i).frm, .int .i64 (nth n.paths i).dst, .int .i64 (nth n.paths i).grade, .int .i64 (nth n.paths i).time.lo, .int .i64 (nth n.paths i).time.hi, .int .i64 (nth n.paths i).snow.lo, .int .i64 (nth n.paths i).snow.hi, .slice (B i) (nth n.paths i).opens.length (C i)] : Array Value)[j]? := fun W9 j h => by
                        rw [h.cell (Array.getElem?_eq_some_iff.1 hbx).1]
                        simp [World.cell?, hbx]
                      have hbd1 := HG0.out.2 (nth n.paths i).dst.toNat (by omega)
                      have hkW : KB w7.heap.size [w7.heap.size + 1] W8 W := hk16.trans ⟨hob.os, hob.tape, hob.output, hob.size, fun r hr => by
                        have hr' : r < w7.heap.size ∨ r = w7.heap.size + 1 := hr.imp id (fun h => by simpa using h)
                        exact hob.block r (by omega) (by have := hx16.size; omega)⟩
                      have hxW : Ext w W := hxK W hkW
                      have i1 : (k : Int) + 1 < ((m + 1 : Nat) : Int) := by omega
                      have i2 : (k : Int) < ((m + 1 : Nat) : Int) := by omega
                      clear ht1 ht0 hblk hrk hrkl hNI hsl1 hRl
                      gi_wp2_with fail
                      refine wpIn_region_ext_tail 29 (fun _ => trivial) rfl (fun h => CallsIn.inRound l (callsIn_wide.2 h)) (by kernel_rfl) (by kernel_rfl) ?_
                      simp only [List.take_succ_cons, List.take_zero, List.drop_succ_cons, List.drop_zero]
                      have hpW : ∀ d os, Pths (grow (redrawn W d) os) A B C n.paths := fun d os => HN.out.ext (hxW.trans (ext_regrown W d os))
                      repeat (go_big_quiet_step (first | exact Calls.regrown_of (paths_latest n p A B C c i _ _ (hpW _ _) hil HOK.out HPK.out hbd1.1 hbd1.2)))
                      refine wpQuiet_nil ?_
                      rintro W2 hg
                      have hxW2 : Ext W W2 := by
                        obtain ⟨g, rfl⟩ := hg
                        exact ext_regrown W g.d g.os
                      clear hg hpW
                      generalize hT : (if latestOf (nth n.paths i) (nth (byF n p to arr k) (nth n.paths i).dst.toNat - (spanOf p (nth n.paths i)).hi) > nth L (nth n.paths i).frm.toNat then latestOf (nth n.paths i) (nth (byF n p to arr k) (nth n.paths i).dst.toNat - (spanOf p (nth n.paths i)).hi) else nth L (nth n.paths i).frm.toNat) = T
                      have HT := Lib.hid hT
                      clear hT
                      have hr2 := hrw1.ext hxW2
                      have hz2 := hr2.frozen
                      have hWi : Inb w.heap.size [W15.heap.size, W15.heap.size + 1] W := ⟨Nat.le_trans hinb16.low hob.size, fun k hk => Nat.lt_of_lt_of_le (hinb16.own k hk) hob.size⟩
                      have hk3 := (KB.of_ext hWi hxW2).setCell (p := ⟨nx2, (nth n.paths i).frm.toNat, none⟩) (by simp; omega) (by simp only [List.mem_cons, List.not_mem_nil, or_false]; omega) (.int .i64 T)
                      have hf3 := keepsFrom_set (p := ⟨nx2, (nth n.paths i).frm.toNat, none⟩) (u := .int .i64 T) (keepsFrom_ext (KeepsFrom.refl w16.heap.size W) hxW2) hr2
                      have ho3 := (hob.ext_ hxW2).setCell (i := (nth n.paths i).frm.toNat) (.int .i64 T)
                      have hr3 := hr2.set (nth n.paths i).frm.toNat T
                      have HK3 := Lib.hid hk3
                      have HF3 := Lib.hid hf3
                      have HO3 := Lib.hid ho3
                      have HR3 := Lib.hid hr3
                      clear hk3 hf3 ho3 hr3
                      gi_wp2_with fail
                      have key : backL p (byF n p to arr k) (List.replicate N (-1)) (pre ++ [⟨i, hil⟩]) = L.set (nth n.paths i).frm.toNat T := by
                        rw [backL_snoc, HLE.out, backU, ← HT.out]
                        congr 1
                        show max _ _ = _
                        simp only [Int.max_def]
                        (repeat' split) <;> omega
                      refine ⟨HF3.out, HK3.out, HO3.out, ?_⟩
                      dsimp only
                      rw [key]
                      exact HR3.out
                    case done =>
                      intro D xs W hD hxs hI hmk
                      subst hxs
                      obtain ⟨hob, hrw1⟩ := hI
                      have hst := HST.out
                      have hkW : KB w7.heap.size [w7.heap.size + 1] W8 W := hk16.trans ⟨hob.os, hob.tape, hob.output, hob.size, fun r hr => by
                        have hr' : r < w7.heap.size ∨ r = w7.heap.size + 1 := hr.imp id (fun h => by simpa using h)
                        exact hob.block r (by omega) (by have := hx16.size; omega)⟩
                      have hblk : ∀ r, r ≠ nx2 → r < W15.heap.size → W.heap[r]? = W15.heap[r]? := fun r h1 h2 => (hob.block r h1 (Nat.lt_of_lt_of_le h2 hx16.size)).trans (hx16.block r h2)
                      have hst' : BySt n p to arr N w7.heap.size m W8 (k + 1) (Rs ++ [nx2]) ({ target := .collected D, args := #[] } :: ds) W := by
                        refine ⟨by simp [hst.len], fun j hj => ?_, ?_, hkW, ⟨⟨D, rfl, hmk, ?_⟩, ?_⟩, ?_⟩
                        · by_cases hj1 : j < k + 1
                          · rw [nth_snoc_lt (by rw [hst.len]; exact hj1)]
                            have hr := hrow15 j hj1
                            have h0 := (hst.rows j hj1).lt
                            exact (hblk _ (by omega) hr.lt).trans hr
                          · obtain rfl : j = k + 1 := by omega
                            rw [nth_snoc (by rw [hst.len])]
                            have h1 := hrw1
                            dsimp only at h1
                            rw [HNN.out] at h1
                            exact h1
                        · exact (hblk _ (by omega) (by omega)).trans htab
                        · intro e he h
                          have := marks_below hst.marks e he D h
                          have := hx16.size
                          omega
                        · refine marks_kept hst.marks fun E hE _ => ?_
                          have hEl := (Array.getElem?_eq_some_iff.1 hE).1
                          rw [hblk E (by omega) (by omega), hsmk E hEl ?_]
                          · exact hE
                          · rintro rfl
                            rw [hst.tab] at hE
                            cases hE
                        · intro d hd E hE
                          rcases List.mem_cons.1 hd with rfl | hd
                          · cases hE
                            have := hx16.size
                            omega
                          · exact hst.from_ d hd E hE
                      have HST' := Lib.hid hst'
                      clear hst' hst hblk
                      gi_wp2_with fail
                      refine ⟨⟨k + 1, _, _, _, _, _, _, _, _, _, _, _, _, _, _, _, Rs ++ [nx2], _, HST'.out, by omega, ⟨rfl, by omega, rfl, rfl, rfl, rfl, rfl, rfl, rfl, rfl, rfl, rfl, rfl, rfl, rfl, rfl⟩, rfl⟩, ?_⟩
                      simp only [intOf]
                      omega
                    case stop =>
                      rintro D c pre W _ _ h _
                      exact h.elim
                  | _ => exact h.elim
              · have hmk : m = k := by omega
                subst hmk
                obtain ⟨V0, hV0⟩ : ∃ V0, ((wo.alloc (.cells #[.int .i64 frm] 3)).alloc (.cells #[.int .i64 start] 3)).alloc (.cells #[.int .i64 ((m : Int) - 1)] 3) = V0 := ⟨_, rfl⟩
                have hxv : Ext wo V0 := hV0 ▸ (((Ext.refl wo).alloc _).alloc _).alloc _
                have hpl0 : V0.heap[wo.heap.size]? = some (.cells #[.int .i64 frm] 3 (0, 0)) := by
                  rw [← hV0, (((Ext.refl _).alloc _).alloc _).block _ (by simp)]
                  exact heap_alloc_new _ _
                have hat0 : V0.heap[wo.heap.size + 1]? = some (.cells #[.int .i64 start] 3 (0, 0)) := by
                  rw [← hV0, ((Ext.refl _).alloc _).block _ (by simp)]
                  exact heap_alloc_new' (by simp)
                have hkb0 : V0.heap[wo.heap.size + 2]? = some (.cells #[.int .i64 ((m : Int) - 1)] 3 (0, 0)) := by
                  rw [← hV0]
                  exact heap_alloc_new' (by simp)
                have hwoR : bR < wo.heap.size := by omega
                have hrow2 := hst.rows
                have htab2 := hst.tab
                have hlen2 := hst.len
                have hkb2 := hst.kb
                have hst2 : TrkSt bR w7.heap.size wo (trk n p to arr frm start m 0) ((m : Int) - 1) (wo.heap.size + 2) (.slice none 0 0) ds V0 :=
                  ⟨⟨hxv.os, hxv.tape, hxv.output, hxv.size, fun r _ h => hxv.block r h⟩, hpl0, hat0, hkb0, Nat.le_refl _, (hxv.block bR hwoR).trans (hrtK wo hst.kb), ⟨rfl, .inl ⟨rfl, rfl⟩⟩, by simp [Value.ownBlock], marks_kept hst.marks fun D hD _ => (hxv.block D (Array.getElem?_eq_some_iff.1 hD).1).trans hD, hst.from_⟩
                have HT2 := Lib.hid hst2
                clear hst hst2 hpl0 hat0 hkb0
                gi_wp2_with fail
                clear hV0
                refine wpIn_loop (fun a W => ∃ (j bk : Nat) (q122 q123 q124 q125 q126 q127 q159 v : Value) (ds : List Deferred), TrkSt bR w7.heap.size wo (trk n p to arr frm start m j) ((m : Int) - 1 - j) bk v ds W ∧ j ≤ m ∧ a = ⟨#[.agg #[.int .i64 n.places, .slice A n.paths.length c], .agg #[.int .i64 p.grade, .int .i64 p.load, .int .i64 p.pace.lo, .int .i64 p.pace.hi], .int .i64 frm, .int .i64 start, .int .i64 to, .pointer (some ⟨w.heap.size, 0, none⟩), .pointer (some ⟨b1, 0, none⟩), undef, undef, .pointer (some ⟨bT, 0, none⟩), .pointer (some ⟨bR, 0, none⟩), .pointer (some ⟨bA, 0, none⟩), .int .i64 0, .pointer (some ⟨w2.heap.size, 0, none⟩), .int .i64 (m : Int), .pointer (some ⟨w7.heap.size + 1, 0, none⟩), u16, undef, undef, .pointer (some ⟨wo.heap.size, 0, none⟩), .pointer (some ⟨wo.heap.size + 1, 0, none⟩), .pointer (some ⟨bk, 0, none⟩), undef, undef, undef, .tuple #[.agg #[.int .i64 n.places, .slice A n.paths.length c, .int .i64 p.grade, .int .i64 p.load, .int .i64 p.pace.lo, .int .i64 p.pace.hi], .int .i64 0], .agg #[.int .i64 n.places, .slice A n.paths.length c], .agg #[.int .i64 p.grade, .int .i64 p.load, .int .i64 p.pace.lo, .int .i64 p.pace.hi], .int .i64 frm, .int .i64 to, .slice (some ⟨b5, 0, none⟩) 2 2, .int .i64 start, .slice (some ⟨b6, 0, none⟩) 1 1, .agg #[.slice (some ⟨b5, 0, none⟩) 2 2, .slice (some ⟨b6, 0, none⟩) 1 1], .tuple #[.agg #[.int .i64 n.places, .slice A n.paths.length c, .int .i64 p.grade, .int .i64 p.load, .int .i64 p.pace.lo, .int .i64 p.pace.hi], .int .i64 0], .agg #[.int .i64 n.places, .slice A n.paths.length c, .int .i64 p.grade, .int .i64 p.load, .int .i64 p.pace.lo, .int .i64 p.pace.hi], .int .i64 0, .int .i64 0, .bool false, undef, .agg #[.int .i64 n.places, .slice A n.paths.length c, .int .i64 p.grade, .int .i64 p.load, .int .i64 p.pace.lo, .int .i64 p.pace.hi], .int .i64 frm, .int .i64 start, .slice (some ⟨b4, 0, none⟩) l.length l.length, .int .i64 to, .pointer (some ⟨b4, to.toNat, none⟩), .int .i64 arr, .int .i64 arr, .bool false, .agg #[.int .i64 n.places, .slice A n.paths.length c, .int .i64 p.grade, .int .i64 p.load, .int .i64 p.pace.lo, .int .i64 p.pace.hi], .int .i64 frm, .int .i64 start, .slice (some ⟨gS, 0, none⟩) N capS, .func (.func 40) #[] #[.pointer (some ⟨bT, 0, none⟩), .pointer (some ⟨bA, 0, none⟩)], .int .i64 (m : Int), .int .i64 (m : Int), .int .i64 ((m : Int) + 1), .slice (some ⟨w7.heap.size, 0, none⟩) (m + 1) (m + 1), .slice (some ⟨w7.heap.size, 0, none⟩) (m + 1) (m + 1), .slice (some ⟨W8.heap.size, 0, none⟩) 1 1, .pointer (some ⟨w2.heap.size, 0, none⟩), .pointer (some ⟨w2.heap.size, 0, none⟩), .int .i64 n.places, .slice (some ⟨nx, 0, none⟩) N N, .pointer (some ⟨w7.heap.size, 0, none⟩), .slice (some ⟨w7.heap.size, 0, none⟩) (m + 1) (m + 1), .pointer (some ⟨w7.heap.size, 0, none⟩), .slice (some ⟨nx, 0, none⟩) N N, .int .i64 to, .int .i64 arr, .pointer (some ⟨nx, to.toNat, none⟩), .int .i64 (m : Int), .int .i64 (m : Int), .bool false, u74, u75, u76, u77, u78, u79, u80, u81, u82, u83, u84, u85, undef, undef, undef, undef, undef, undef, undef, undef, undef, undef, undef, undef, undef, undef, undef, undef, undef, undef, undef, undef, undef, undef, undef, undef, undef, undef, undef, undef, undef, undef, undef, u117, .int .i64 frm, .int .i64 start, .int .i64 (m : Int), .int .i64 ((m : Int) - 1), q122, q123, q124, q125, q126, q127, undef, undef, undef, undef, undef, undef, undef, undef, undef, undef, undef, undef, undef, undef, undef, undef, undef, undef, undef, undef, undef, undef, undef, undef, undef, undef, undef, undef, undef, undef, undef, q159, undef, undef], ds⟩) (fun a W => (kOf W (a.tmps.getD 21 undef) + 1).toNat) ?_ ?_
                · refine ⟨0, wo.heap.size + 2, _, _, _, _, _, _, _, .slice none 0 0, ds, ?_, Nat.zero_le _, rfl⟩
                  have h := HT2.out
                  simpa using h
                · rintro a wv ⟨j, bk, q122, q123, q124, q125, q126, q127, q159, v, ds2, htk, hjm, rfl⟩
                  have hkc : wv.cell? ⟨bk, 0, none⟩ = some (.int .i64 ((m : Int) - 1 - j)) := by simp [World.cell?, htk.kbox]
                  by_cases hj : j < m
                  · have hwv : wo.heap.size ≤ wv.heap.size := htk.same.size
                    have hsB : ∀ r, r < wo.heap.size → r ≠ bR → wv.heap[r]? = wo.heap[r]? := fun r h1 h2 => htk.same.block r h2 h1
                    have h7w : w7.heap.size + 1 < wo.heap.size := by omega
                    have hbklt : bk < wv.heap.size := (Array.getElem?_eq_some_iff.1 htk.kbox).1
                    have wkV : ∀ W9 j, Ext wv W9 → W9.cell? ⟨w2.heap.size, j, none⟩ = (#[.int .i64 n.places, .slice A n.paths.length c, .int .i64 p.grade, .int .i64 p.load, .int .i64 p.pace.lo, .int .i64 p.pace.hi] : Array Value)[j]? := fun W9 j h => by
                      rw [h.cell (by simp; omega), World.cell?_of_block (w := wo) (hsB w2.heap.size (by omega) (by omega))]
                      exact wkK wo j hkb2
                    have byV : ∀ W9, Ext wv W9 → W9.cell? ⟨w7.heap.size + 1, 0, none⟩ = some (.slice (some ⟨w7.heap.size, 0, none⟩) (m + 1) (m + 1)) := fun W9 h => by
                      rw [h.cell (by simp; omega), World.cell?_of_block (w := wo) (hsB (w7.heap.size + 1) h7w (by omega))]
                      exact byK wo hkb2
                    obtain ⟨q, hq⟩ : ∃ q : Nat, q = m - 1 - j := ⟨_, rfl⟩
                    have hqI : (m : Int) - 1 - j = (q : Int) := by omega
                    have hqm : q < m := by omega
                    have hxv2 : Ext w wv := OnlyB.ext (hxK wo hkb2) htk.same (by omega)
                    have htb := trk_bd HOK.out HPK.out to arr frm start ⟨s1, s2⟩ m j
                    obtain ⟨t, ht⟩ : ∃ t, trk n p to arr frm start m j = t := ⟨_, rfl⟩
                    rw [ht] at htk htb
                    have HTT := Lib.hid ht
                    have HTK := Lib.hid htk
                    clear ht
                    have HQ := Lib.hid hq
                    clear htk hq
                    have hw := fun W => paths_ways n p A c (-1) W
                    have HW := Lib.hid hw
                    clear hw
                    rw [hqI] at hkc
                    gi_wp2_with fail
                    refine ⟨trivial, ?_⟩
                    refine (callsIn_wide.2 (HW.out _)).mono ?_
                    rintro e w16 ⟨rfl, hw16⟩
                    have hx16 : Ext wv w16 := hw16 ▸ ((Ext.refl wv).alloc _).alloc _
                    have hs16 : wv.heap.size + 1 < w16.heap.size := by rw [← hw16]; simp
                    have y : ∀ W9 j, Ext w16 W9 → W9.cell? ⟨wv.heap.size, j, none⟩ = (#[.int .i64 n.places, .slice A n.paths.length c, .int .i64 p.grade, .int .i64 p.load, .int .i64 p.pace.lo, .int .i64 p.pace.hi] : Array Value)[j]? := fun W9 j h => by rw [h.cell (by rw [← hw16]; simp only [World.size_alloc]; omega), ← hw16]; simp [go_sem]
                    have x : ∀ W9 j, Ext w16 W9 → W9.cell? ⟨wv.heap.size + 1, j, none⟩ = (#[.int .i64 (-1)] : Array Value)[j]? := fun W9 j h => by rw [h.cell (by rw [← hw16]; simp only [World.size_alloc]; omega), ← hw16]; simp [go_sem]
                    have hxw16 : Ext w w16 := hxv2.trans hx16
                    have hinb16 : Inb w.heap.size [wv.heap.size, wv.heap.size + 1] w16 := ⟨hxw16.size, by intro k hk; simp only [List.mem_cons, List.not_mem_nil, or_false] at hk; omega⟩
                    have hput16 : ∀ (W : World) (l : Nat) (o o' : Obj), w16.heap.size ≤ l → W.heap[l]? = some o → o.isCells = false → o.isWalk = false → KB w.heap.size [wv.heap.size, wv.heap.size + 1] W (W.putObj l o') := fun W l o o' hl _ _ _ => (KB.refl _ _ _).putObj (Nat.le_trans hxw16.size hl) (by simp only [List.mem_cons, List.not_mem_nil, or_false]; omega) o'
                    have hAx16 : ∀ (T : Nat → Act) (x : Pix n) (a' : Act), OwnFrom w16.heap.size (fun (_ : Unit) W => ∃ Bx, W.heap[Bx]? = some (.cells (vPth B C n.paths x.1).cells 34 (0, 0)) ∧ a' = T Bx) :=
                      fun T x a' _ W W' row ⟨Bx, h1, h2⟩ hg hr => ⟨Bx, (hg.block Bx (Array.getElem?_eq_some_iff.1 h1).1 (fun e => by obtain ⟨_, o, ho, hc⟩ := hr Bx e.symm; rw [h1] at ho; cases ho; cases hc)).trans h1, h2⟩
                    gi_wp2_with fail
                    refine wpIn_rangeFunc_ownH rfl (by omega) (gf := 65) (lb := #[.pointer (some ⟨wv.heap.size, 0, none⟩), .pointer (some ⟨wv.heap.size + 1, 0, none⟩)]) rfl trivial (enters_of Try.func65 (by kernel_rfl) rfl)
                      (ways_stops n p A B C c (-1) wv.heap.size (wv.heap.size + 1) 4 w w16 HN.out (by omega) hxw16 hinb16 (fun j => y w16 j (Ext.refl _)) (by rw [x w16 0 (Ext.refl _)]; rfl))
                      KB.trans hput16 (Below.refl _ _) (fun _ => rfl)
                      (PickI (takes p (byF n p to arr q) t.place t.at_) w16) (PickX p (takes p (byF n p to arr q) t.place t.at_) bR w7.heap.size wo w16 t ((m : Int) - 1 - j) bk ds2)
                      PickI.own (fun _ => PickX.own) ⟨by simp, Ext.refl _⟩
                      (fun x a' W => ∃ Bx, W.heap[Bx]? = some (.cells (vPth B C n.paths x.1).cells 34 (0, 0)) ∧ a' = ⟨#[.agg #[.int .i64 n.places, .slice A n.paths.length c], .agg #[.int .i64 p.grade, .int .i64 p.load, .int .i64 p.pace.lo, .int .i64 p.pace.hi], .int .i64 frm, .int .i64 start, .int .i64 to, .pointer (some ⟨w.heap.size, 0, none⟩), .pointer (some ⟨b1, 0, none⟩), undef, undef, .pointer (some ⟨bT, 0, none⟩), .pointer (some ⟨bR, 0, none⟩), .pointer (some ⟨bA, 0, none⟩), .int .i64 0, .pointer (some ⟨w2.heap.size, 0, none⟩), .int .i64 (m : Int), .pointer (some ⟨w7.heap.size + 1, 0, none⟩), u16, undef, undef, .pointer (some ⟨wo.heap.size, 0, none⟩), .pointer (some ⟨wo.heap.size + 1, 0, none⟩), .pointer (some ⟨bk, 0, none⟩), .int .i64 (x.1 : Int), .pointer (some ⟨Bx, 0, none⟩), undef, .tuple #[.agg #[.int .i64 n.places, .slice A n.paths.length c, .int .i64 p.grade, .int .i64 p.load, .int .i64 p.pace.lo, .int .i64 p.pace.hi], .int .i64 0], .agg #[.int .i64 n.places, .slice A n.paths.length c], .agg #[.int .i64 p.grade, .int .i64 p.load, .int .i64 p.pace.lo, .int .i64 p.pace.hi], .int .i64 frm, .int .i64 to, .slice (some ⟨b5, 0, none⟩) 2 2, .int .i64 start, .slice (some ⟨b6, 0, none⟩) 1 1, .agg #[.slice (some ⟨b5, 0, none⟩) 2 2, .slice (some ⟨b6, 0, none⟩) 1 1], .tuple #[.agg #[.int .i64 n.places, .slice A n.paths.length c, .int .i64 p.grade, .int .i64 p.load, .int .i64 p.pace.lo, .int .i64 p.pace.hi], .int .i64 0], .agg #[.int .i64 n.places, .slice A n.paths.length c, .int .i64 p.grade, .int .i64 p.load, .int .i64 p.pace.lo, .int .i64 p.pace.hi], .int .i64 0, .int .i64 0, .bool false, undef, .agg #[.int .i64 n.places, .slice A n.paths.length c, .int .i64 p.grade, .int .i64 p.load, .int .i64 p.pace.lo, .int .i64 p.pace.hi], .int .i64 frm, .int .i64 start, .slice (some ⟨b4, 0, none⟩) l.length l.length, .int .i64 to, .pointer (some ⟨b4, to.toNat, none⟩), .int .i64 arr, .int .i64 arr, .bool false, .agg #[.int .i64 n.places, .slice A n.paths.length c, .int .i64 p.grade, .int .i64 p.load, .int .i64 p.pace.lo, .int .i64 p.pace.hi], .int .i64 frm, .int .i64 start, .slice (some ⟨gS, 0, none⟩) N capS, .func (.func 40) #[] #[.pointer (some ⟨bT, 0, none⟩), .pointer (some ⟨bA, 0, none⟩)], .int .i64 (m : Int), .int .i64 (m : Int), .int .i64 ((m : Int) + 1), .slice (some ⟨w7.heap.size, 0, none⟩) (m + 1) (m + 1), .slice (some ⟨w7.heap.size, 0, none⟩) (m + 1) (m + 1), .slice (some ⟨W8.heap.size, 0, none⟩) 1 1, .pointer (some ⟨w2.heap.size, 0, none⟩), .pointer (some ⟨w2.heap.size, 0, none⟩), .int .i64 n.places, .slice (some ⟨nx, 0, none⟩) N N, .pointer (some ⟨w7.heap.size, 0, none⟩), .slice (some ⟨w7.heap.size, 0, none⟩) (m + 1) (m + 1), .pointer (some ⟨w7.heap.size, 0, none⟩), .slice (some ⟨nx, 0, none⟩) N N, .int .i64 to, .int .i64 arr, .pointer (some ⟨nx, to.toNat, none⟩), .int .i64 (m : Int), .int .i64 (m : Int), .bool false, u74, u75, u76, u77, u78, u79, u80, u81, u82, u83, u84, u85, undef, undef, undef, undef, undef, undef, undef, undef, undef, undef, undef, undef, undef, undef, undef, undef, undef, undef, undef, undef, undef, undef, undef, undef, undef, undef, undef, undef, undef, undef, undef, u117, .int .i64 frm, .int .i64 start, .int .i64 (m : Int), .int .i64 ((m : Int) - 1), .int .i64 (q : Int), .bool true, q124, q125, .agg #[.int .i64 n.places, .slice A n.paths.length c, .int .i64 p.grade, .int .i64 p.load, .int .i64 p.pace.lo, .int .i64 p.pace.hi], .func (.func 65) #[] #[.pointer (some ⟨wv.heap.size, 0, none⟩), .pointer (some ⟨wv.heap.size + 1, 0, none⟩)], .int .i64 (x.1 : Int), vPth B C n.paths x.1, undef, undef, undef, undef, undef, undef, undef, undef, undef, undef, undef, undef, undef, undef, undef, undef, undef, undef, undef, undef, undef, undef, undef, undef, undef, undef, undef, undef, undef, q159, undef, undef], []⟩)
                      (fun x a' => hAx16 _ x a')
                      ?assign ?body ?done ?stop
                    case assign =>
                      intro l pre x W K hI hK
                      have hWs : w16.heap.size ≤ W.heap.size := hI.2.size
                      have hiW : Inb w.heap.size [wv.heap.size, wv.heap.size + 1] W := ⟨Nat.le_trans hinb16.low hWs, fun k hk => Nat.lt_of_lt_of_le (hinb16.own k hk) hWs⟩
                      gi_wp2
                      exact hK _ _ (keepsFrom_ext (KeepsFrom.refl _ _) ((Ext.refl W).alloc _)) ((KB.refl _ _ _).alloc hiW _) ⟨hI.1, hI.2.trans ((Ext.refl W).alloc _)⟩ ⟨W.heap.size, heap_alloc_new _ _, rfl⟩
                    case body =>
                      intro l pre x a' W hl hlr hI hA hpl
                      obtain ⟨Bx, hbx, rfl⟩ := hA
                      obtain ⟨hno, hxW⟩ := hI
                      obtain ⟨i, hil⟩ := x
                      dsimp only [vPth, Value.cells] at hbx
                      obtain ⟨⟨F0, F1⟩, ⟨D0, D1⟩, _, _, _, _, olen, _⟩ := pathOk_iff.1 (HALL.out _ (nth_mem hil))
                      have hNI := HNN.out
                      have D2 : (nth n.paths i).dst.toNat < N := by omega
                      have D3 : (nth n.paths i).dst < (N : Int) := by omega
                      have hTW := (HTK.out.ext_ hx16).ext_ hxW
                      have hbl := (good3_byF (n := n) (p := p) (to := to) (arr := arr) HOK.out HPK.out (show to.toNat < n.places.toNat by omega) harB q).1
                      have hrq := hrow2 q (by omega)
                      have hrqR : nth Rs q ≠ bR := by
                        have h1 := hrtK wo hkb2
                        exact row_ne hrq h1 (by decide)
                      have htq : (sls N Rs ++ List.replicate (m - m) (Value.slice none 0 0))[q]? = some (.slice (some ⟨nth Rs q, 0, none⟩) N N) := by
                        have hkl : q < Rs.length := by rw [hlen2]; omega
                        rw [List.getElem?_append_left (by simpa [sls] using hkl), nth_eq hkl, sls, List.getElem?_map, List.getElem?_eq_getElem hkl]
                        rfl
                      have plB : ∀ W9, Ext W W9 → W9.cell? ⟨wo.heap.size, 0, none⟩ = some (.int .i64 t.place) := fun W9 h => by simp [World.cell?, (hTW.ext_ h).place]
                      have atB : ∀ W9, Ext W W9 → W9.cell? ⟨wo.heap.size + 1, 0, none⟩ = some (.int .i64 t.at_) := fun W9 h => by simp [World.cell?, (hTW.ext_ h).at_]
                      have kB : ∀ W9, Ext W W9 → W9.cell? ⟨bk, 0, none⟩ = some (.int .i64 (q : Int)) := fun W9 h => by simp [World.cell?, (hTW.ext_ h).kbox, hqI]
                      have wkB : ∀ W9 j, Ext W W9 → W9.cell? ⟨w2.heap.size, j, none⟩ = (#[.int .i64 n.places, .slice A n.paths.length c, .int .i64 p.grade, .int .i64 p.load, .int .i64 p.pace.lo, .int .i64 p.pace.hi] : Array Value)[j]? := fun W9 j h => wkV W9 j ((hx16.trans hxW).trans h)
                      have byB : ∀ W9, Ext W W9 → W9.cell? ⟨w7.heap.size + 1, 0, none⟩ = some (.slice (some ⟨w7.heap.size, 0, none⟩) (m + 1) (m + 1)) := fun W9 h => byV W9 ((hx16.trans hxW).trans h)
                      have tqB : ∀ W9, Ext W W9 → W9.cell? ⟨w7.heap.size, q, none⟩ = some (.slice (some ⟨nth Rs q, 0, none⟩) N N) := fun W9 h => by
                        rw [World.cell?_of_block (w := wo) ((hTW.ext_ h).same.block w7.heap.size (by omega) (by omega)), cell_of_row _ _ _ _ _ _ htab2]
                        simpa using htq
                      have rqD : ∀ W9, Ext W W9 → W9.cell? ⟨nth Rs q, (nth n.paths i).dst.toNat, none⟩ = some (.int .i64 (nth (byF n p to arr q) (nth n.paths i).dst.toNat)) := fun W9 h => by
                        rw [World.cell?_of_block (w := wo) ((hTW.ext_ h).same.block (nth Rs q) hrqR hrq.lt)]
                        exact hrq.cell (by omega)
                      have xW : ∀ W9 j, Ext W W9 → W9.cell? ⟨Bx, j, none⟩ = (#[.int .i64 (nth n.paths i).frm, .int .i64 (nth n.paths i).dst, .int .i64 (nth n.paths i).grade, .int .i64 (nth n.paths i).time.lo, .int .i64 (nth n.paths i).time.hi, .int .i64 (nth n.paths i).snow.lo, .int .i64 (nth n.paths i).snow.hi, .slice (B i) (nth n.paths i).opens.length (C i)] : Array Value)[j]? := fun W9 j h => by
                        rw [h.cell (Array.getElem?_eq_some_iff.1 hbx).1]
                        simp [World.cell?, hbx]
                      have iq : (q : Int) < ((m + 1 : Nat) : Int) := by omega
                      have hxwW : Ext w W := hxw16.trans hxW
                      clear htq hNI hbl hrq
                      by_cases hfp : ((nth n.paths i).frm != t.place) = true
                      · have htk0 : takes p (byF n p to arr q) t.place t.at_ ⟨i, hil⟩ = false := by
                          simp only [bne_iff_ne] at hfp
                          simp [takes, hfp]
                        have HT0 := Lib.hid htk0
                        clear htk0
                        gi_wp2_with fail
                        refine ⟨KeepsFrom.refl _ _, KB.refl _ _ _, fun y hy => ?_, hxW⟩
                        rcases List.mem_append.1 hy with hy | hy
                        · exact hno y hy
                        · rw [List.mem_singleton.1 hy]
                          exact HT0.out
                      · have hfp' : ((nth n.paths i).frm != t.place) = false := by simpa using hfp
                        have hfld := field_span_hi
                        gi_wp2_with fail
                        refine wpIn_region_ext (fun _ => trivial) rfl (fun h => CallsIn.inRound l (callsIn_wide.2 h)) (by kernel_rfl) (by kernel_rfl) ?_
                        have hpW : ∀ d os, Pths (grow (redrawn W d) os) A B C n.paths := fun d os => HN.out.ext (hxwW.trans (ext_regrown W d os))
                        have hbd3 := spanOf_bd HOK.out HPK.out hil
                        obtain ⟨⟨hb1', hb2'⟩, hb3'⟩ := htb
                        repeat (go_big_quiet_step (first | exact Calls.regrown_of (paths_span n p A B C c i _ (hpW _ _) hil HOK.out HPK.out) | exact Calls.regrown_of (paths_arrive n p A B C c i _ _ _ (hpW _ _) hil (by omega) (by omega) hb2' hbd3.1 (by omega))))
                        refine wpQuiet_nil ?_
                        rintro W2 hg
                        have hxW2 : Ext W W2 := by
                          obtain ⟨g, rfl⟩ := hg
                          exact ext_regrown W g.d g.os
                        clear hg hpW
                        obtain ⟨T, hT⟩ : ∃ T, arriveOf (nth n.paths i) t.at_ (spanOf p (nth n.paths i)).hi = T := ⟨_, rfl⟩
                        rw [hT]
                        have HT := Lib.hid hT
                        clear hT
                        gi_wp2_with fail
                        refine wpIn_region_ext (fun _ => trivial) rfl (fun h => CallsIn.inRound l (callsIn_wide.2 h)) (by kernel_rfl) (by kernel_rfl) ?_
                        have up : ∀ d os, Ext W (grow (redrawn W2 d) os) := fun d os => hxW2.trans (ext_regrown W2 d os)
                        repeat (go_big_quiet_step (fail))
                        refine wpQuiet_nil ?_
                        rintro W3' hg
                        have hxW3 : Ext W W3' := by
                          obtain ⟨g, rfl⟩ := hg
                          exact up g.d g.os
                        clear hg up
                        by_cases hle : T ≤ nth (byF n p to arr q) (nth n.paths i).dst.toNat
                        · obtain ⟨i0, hi0, hz0, hz1, hz2⟩ := info_parts int_info
                          obtain ⟨Wa, hWa⟩ : ∃ Wa, W3'.alloc (.cells #[.int .i64 (i : Int)] 3) = Wa := ⟨_, rfl⟩
                          have hxa : Ext W3' Wa := hWa ▸ (Ext.refl W3').alloc _
                          have hna : Wa.heap[W3'.heap.size]? = some (.cells #[.int .i64 (i : Int)] 3 (0, 0)) := by rw [← hWa]; exact heap_alloc_new _ _
                          have hxWa : Ext W Wa := hxW3.trans hxa
                          have hTa := hTW.ext_ hxWa
                          have hown := hTa.own
                          have hcap : t.route.length + 1 ≤ maxLen := Nat.le_trans (show t.route.length + 1 ≤ 14 by omega) (by decide)
                          have hbase : wo.heap.size + 2 ≤ Wa.heap.size := by have h1 := hTa.klt; have h2 := (Array.getElem?_eq_some_iff.1 hTa.kbox).1; omega
                          have hvl : ∀ g, v.ownBlock = some g → wo.heap.size + 2 ≤ g ∧ g < w16.heap.size := fun g hg => by
                            obtain ⟨h1, h2, _⟩ := owns_lt HTK.out.own hg
                            exact ⟨h1, by have := hx16.size; omega⟩
                          have hrc : W3'.cell? ⟨bR, 0, none⟩ = some v := by simp [World.cell?, (hTW.ext_ hxW3).rbox]
                          have hbx3 : Wa.heap[Bx]? = some (.cells #[.int .i64 (nth n.paths i).frm, .int .i64 (nth n.paths i).dst, .int .i64 (nth n.paths i).grade, .int .i64 (nth n.paths i).time.lo, .int .i64 (nth n.paths i).time.hi, .int .i64 (nth n.paths i).snow.lo, .int .i64 (nth n.paths i).snow.hi, .slice (B i) (nth n.paths i).opens.length (C i)] 34 (0, 0)) := (hxWa.block Bx (Array.getElem?_eq_some_iff.1 hbx).1).trans hbx
                          have hvBx : v.ownBlock ≠ some Bx := fun e => by
                            obtain ⟨_, _, c, hc⟩ := owns_lt hown e
                            rw [hbx3] at hc
                            injection hc with hc
                            injection hc with _ hc
                            exact absurd hc (by decide)
                          have hkp : ∀ w10 r, Wa.grownBy w10 v.ownBlock → r < Wa.heap.size → v.ownBlock ≠ some r → w10.heap[r]? = Wa.heap[r]? := fun w10 r hg h1 h2 => hg.block r h1 (fun e => h2 e.symm)
                          have hblt : bR < Wa.heap.size := by omega
                          have hvR : v.ownBlock ≠ some bR := fun e => by have := (hvl _ e).1; omega
                          have hvP : v.ownBlock ≠ some wo.heap.size := fun e => by have := (hvl _ e).1; omega
                          have hvA : v.ownBlock ≠ some (wo.heap.size + 1) := fun e => by have := (hvl _ e).1; omega
                          have nBR : Bx ≠ bR := blocks_ne hbx3 hTa.rbox (by decide)
                          have nRP : bR ≠ wo.heap.size := by omega
                          have nRA : bR ≠ wo.heap.size + 1 := by omega
                          have HTA := Lib.hid hTa
                          have HOWN := Lib.hid hown
                          have HC := Lib.hid hcap
                          have HI0 := Lib.hid hi0
                          clear hTa hown hcap hi0
                          have hle' : decide (T ≤ nth (byF n p to arr q) (nth n.paths i).dst.toNat) = true := by simpa using hle
                          gi_wp2_with (gi_at_builtin; refine wpListIn_append_own_at _ rfl _ _ 29 rfl (wo.heap.size + 2) 3 i0 (.int .i64 0) 1 8 Try.underlying29 HI0.out hz0 hz1 hz2 rfl (by decide) v t.route.length (t.route.map (Value.int .i64)) rfl HOWN.out ⟨W3'.heap.size, 0, none⟩ 1 1 [.int .i64 (i : Int)] rfl rfl (World.news_of_block hna) (by simp [Value.oneCell']) HC.out (by omega) hbase ?_; intro v' w10 hown' hgr hnil hat; clear hnil; obtain ⟨g', cap', rfl, hg1, hg2⟩ := hown'.form (by omega); have rb10 := (hkp w10 bR hgr hblt hvR).trans HTA.out.rbox; have rc10 : w10.cell? ⟨bR, 0, none⟩ = some v := (by simp [World.cell?, rb10]); have rz10 : w10.frozen? ⟨bR, 0, none⟩ = false := (by simp [World.frozen?, rb10]); have pb10 := (hkp w10 wo.heap.size hgr (by omega) hvP).trans HTA.out.place; have ab10 := (hkp w10 (wo.heap.size + 1) hgr (by omega) hvA).trans HTA.out.at_; have xb10 := (hkp w10 Bx hgr (Array.getElem?_eq_some_iff.1 hbx3).1 hvBx).trans hbx3; have xc10 : w10.cell? ⟨Bx, 1, none⟩ = some (.int .i64 (nth n.paths i).dst) := (by simp [World.cell?, xb10]); have pc10 : w10.cell? ⟨wo.heap.size, 0, none⟩ = some (.int .i64 t.place) := (by simp [World.cell?, pb10]); have pz10 : w10.frozen? ⟨wo.heap.size, 0, none⟩ = false := (by simp [World.frozen?, pb10]); have ac10 : w10.cell? ⟨wo.heap.size + 1, 0, none⟩ = some (.int .i64 t.at_) := (by simp [World.cell?, ab10]); have az10 : w10.frozen? ⟨wo.heap.size + 1, 0, none⟩ = false := (by simp [World.frozen?, ab10]))
                          have htk1 : takes p (byF n p to arr q) t.place t.at_ ⟨i, hil⟩ = true := by
                            have h1 : (nth n.paths i).frm = t.place := by simpa using hfp'
                            simp only [takes, HT.out]
                            simp [h1, hle]
                          obtain ⟨Wf, hWf⟩ : ∃ Wf, ((w10.setCell ⟨bR, 0, none⟩ (.slice (some ⟨g', 0, none⟩) (t.route.length + 1) cap')).setCell ⟨wo.heap.size, 0, none⟩ (.int .i64 (nth n.paths i).dst)).setCell ⟨wo.heap.size + 1, 0, none⟩ (.int .i64 T) = Wf := ⟨_, rfl⟩
                          rw [hWf]
                          have hsf : Wf.heap.size = w10.heap.size := by rw [← hWf]; simp [World.setCell]
                          have hG10 : ∀ r, r ≠ bR → r ≠ wo.heap.size → r ≠ wo.heap.size + 1 → Wf.heap[r]? = w10.heap[r]? := fun r h1 h2 h3 => by
                            rw [← hWf, heap_set_other h3, heap_set_other h2, heap_set_other h1]
                          have hG : ∀ r, r ≠ bR → r ≠ wo.heap.size → r ≠ wo.heap.size + 1 → v.ownBlock ≠ some r → r < Wa.heap.size → Wf.heap[r]? = Wa.heap[r]? := fun r h1 h2 h3 h4 h5 => (hG10 r h1 h2 h3).trans (hkp w10 r hgr h5 h4)
                          have hTA := HTA.out
                          have hbk2 := (Array.getElem?_eq_some_iff.1 hTA.kbox).1
                          have hKF : KeepsFrom w16.heap.size W Wf := by
                            rw [← hWf]
                            have h0 : KeepsFrom w16.heap.size W w10 := (keepsFrom_ext (KeepsFrom.refl w16.heap.size W) hxWa).trans (KeepsFrom.of_grownBy hgr (fun g hg => (hvl g hg).2))
                            have h1 := keepsFrom_set (p := ⟨bR, 0, none⟩) (u := .slice (some ⟨g', 0, none⟩) (t.route.length + 1) cap') h0 rb10
                            have h2 := keepsFrom_set (p := ⟨wo.heap.size, 0, none⟩) (u := .int .i64 (nth n.paths i).dst) h1 ((heap_set_other (p := ⟨bR, 0, none⟩) (fun e => nRP e.symm)).trans pb10)
                            exact keepsFrom_set (p := ⟨wo.heap.size + 1, 0, none⟩) (u := .int .i64 T) h2 ((heap_set_other (p := ⟨wo.heap.size, 0, none⟩) (by simp)).trans ((heap_set_other (p := ⟨bR, 0, none⟩) (fun e => nRA e.symm)).trans ab10))
                          have hown2 : ∀ g, g = g' → wo.heap.size + 2 ≤ g := fun g e => by rw [e]; exact hg1
                          have hst' : TrkSt bR w7.heap.size wo ⟨(nth n.paths i).dst, arriveOf (nth n.paths i) t.at_ (spanOf p (nth n.paths i)).hi, t.route ++ [(i : Int)]⟩ ((m : Int) - 1 - j) bk (.slice (some ⟨g', 0, none⟩) (t.route.length + 1) cap') ds2 Wf := by
                            refine ⟨⟨?_, ?_, ?_, ?_, fun r h1 h2 => ?_⟩, ?_, ?_, ?_, hTA.klt, ?_, ?_, ?_, ?_, hTA.from_⟩
                            · rw [← hWf]; exact hgr.os.trans hTA.same.os
                            · rw [← hWf]; exact hgr.tape.trans hTA.same.tape
                            · rw [← hWf]; exact hgr.output.trans hTA.same.output
                            · rw [hsf]; exact Nat.le_trans hTA.same.size hgr.size
                            · exact (hG r h1 (by omega) (by omega) (fun e => by have := (hvl r e).1; omega) (Nat.lt_of_lt_of_le h2 hTA.same.size)).trans (hTA.same.block r h1 h2)
                            · rw [← hWf, heap_set_other (by simp)]
                              simp [World.setCell, Array.getElem?_modify, pb10, nRP]
                            · rw [← hWf]
                              simp [World.setCell, Array.getElem?_modify, ab10, nRA, HT.out]
                            · exact (hG bk (by have := hTA.klt; omega) (by have := hTA.klt; omega) (by have := hTA.klt; omega) hTA.onek hbk2).trans hTA.kbox
                            · rw [← hWf, heap_set_other nRA, heap_set_other nRP]
                              simp [World.setCell, Array.getElem?_modify, rb10]
                            · have h := owns_same (W := Wf) hown' (fun g c f hg _ => by
                                have e : g' = g := by simpa [Value.ownBlock] using hg
                                exact hG10 g (by omega) (by omega) (by omega))
                              simpa using h
                            · rcases hat with h | h
                              · rw [h]; exact hTA.onek
                              · rw [h]
                                intro e
                                injection e with e
                                omega
                            · refine marks_kept hTA.marks fun E hE _ => (hG E ?_ ?_ ?_ ?_ (Array.getElem?_eq_some_iff.1 hE).1).trans hE
                              · rintro rfl
                                rw [hTA.rbox] at hE
                                cases hE
                              · rintro rfl
                                rw [hTA.place] at hE
                                cases hE
                              · rintro rfl
                                rw [hTA.at_] at hE
                                cases hE
                              · intro e
                                obtain ⟨_, _, c, hc⟩ := owns_lt HOWN.out e
                                rw [hc] at hE
                                cases hE
                          refine ⟨hKF, rfl, pre, ⟨i, hil⟩, rfl, hno, htk1, Wf, _, hst', ?_, Shut.refl _ _⟩
                          exact Nat.le_trans hxW.size hKF.size
                        · have htk0 : takes p (byF n p to arr q) t.place t.at_ ⟨i, hil⟩ = false := by
                            simp only [takes, HT.out]
                            simp [hle]
                          have HT0 := Lib.hid htk0
                          clear htk0
                          have hWi : Inb w.heap.size [wv.heap.size, wv.heap.size + 1] W := ⟨Nat.le_trans hinb16.low hxW.size, fun k hk => Nat.lt_of_lt_of_le (hinb16.own k hk) hxW.size⟩
                          gi_wp2_with fail
                          refine ⟨keepsFrom_ext (KeepsFrom.refl _ _) hxW3, KB.of_ext hWi hxW3, fun y hy => ?_, hxW.trans hxW3⟩
                          rcases List.mem_append.1 hy with hy | hy
                          · exact hno y hy
                          · rw [List.mem_singleton.1 hy]
                            exact HT0.out
                    case done =>
                      intro D xs W hD hxs hI hmk
                      subst hxs
                      have hTW := (HTK.out.ext_ hx16).ext_ hI.2
                      have htrk : trk n p to arr frm start m (j + 1) = t := by
                        rw [trk, HTT.out, ← HQ.out, trkStep]
                        have h1 : (waysTo n p (-1) n.paths.length).find? (takes p (byF n p to arr q) t.place t.at_) = none := List.find?_eq_none.2 (fun y hy => by rw [hI.1 y hy]; simp)
                        rw [h1]
                      have HTR := Lib.hid htrk
                      clear htrk
                      have hkcW : W.cell? ⟨bk, 0, none⟩ = some (.int .i64 (q : Int)) := by simp [World.cell?, hTW.kbox, hqI]
                      obtain ⟨Wn, hWn⟩ : ∃ Wn, W.alloc (.cells #[.int .i64 (q : Int)] 3) = Wn := ⟨_, rfl⟩
                      have hcn : Wn.cell? ⟨W.heap.size, 0, none⟩ = some (.int .i64 (q : Int)) := by rw [← hWn, World.cell?_alloc_new]; rfl
                      have hzn : Wn.frozen? ⟨W.heap.size, 0, none⟩ = false := by
                        have h1 : Wn.heap[W.heap.size]? = some (.cells #[.int .i64 (q : Int)] 3 (0, 0)) := by rw [← hWn]; exact heap_alloc_new _ _
                        simp [World.frozen?, h1]
                      have hne : ∀ e ∈ ds2, e.target ≠ .collected D := fun e he h => by
                        have := marks_below HTK.out.marks e he D h
                        have := hx16.size
                        omega
                      obtain ⟨Wm, hWm⟩ : ∃ Wm, Wn.setCell ⟨W.heap.size, 0, none⟩ (.int .i64 ((q : Int) - 1)) = Wm := ⟨_, rfl⟩
                      have hTm := TrkSt.next (hqI ▸ hTW) hwoR hmk (by have := hx16.size; omega) hne hWn hWm
                      have HTM := Lib.hid hTm
                      clear hTm
                      gi_wp2_with fail
                      have hzz : (m : Int) - 1 - ((j + 1 : Nat) : Int) = (q : Int) - 1 := by omega
                      refine ⟨⟨j + 1, W.heap.size, _, _, _, _, _, _, _, v, _, ?_, hj, rfl⟩, ?_⟩
                      · rw [HTR.out, hzz]
                        exact HTM.out
                      · show (kOf Wm (.pointer (some ⟨W.heap.size, 0, none⟩)) + 1).toNat < (kOf wv (.pointer (some ⟨bk, 0, none⟩)) + 1).toNat
                        have h1 : Wm.cell? ⟨W.heap.size, 0, none⟩ = some (.int .i64 ((q : Int) - 1)) := by simp [World.cell?, HTM.out.kbox]
                        rw [kOf_cell h1, kOf_cell hkc]
                        omega
                    case stop =>
                      rintro D c2 pre W hD ⟨kk, hkk, hpre⟩ ⟨hce, pre', x2, hpx, hpn, hpt, X, v', hst', hsX, hsh⟩ hmk
                      subst hce
                      have hTW := hst'.shut hsh (by have := hx16.size; omega) (fun d hd E hE => Nat.lt_of_lt_of_le (marks_below HTK.out.marks d hd E hE) hx16.size)
                      have htrk : trk n p to arr frm start m (j + 1) = ⟨(nth n.paths x2.1).dst, arriveOf (nth n.paths x2.1) t.at_ (spanOf p (nth n.paths x2.1)).hi, t.route ++ [(x2.1 : Int)]⟩ := by
                        rw [trk, HTT.out, ← HQ.out, trkStep, find_pick hkk (hpx.symm.trans hpre) hpn hpt]
                      have HTR := Lib.hid htrk
                      clear htrk
                      have hkcW : W.cell? ⟨bk, 0, none⟩ = some (.int .i64 (q : Int)) := by simp [World.cell?, hTW.kbox, hqI]
                      obtain ⟨Wn, hWn⟩ : ∃ Wn, W.alloc (.cells #[.int .i64 (q : Int)] 3) = Wn := ⟨_, rfl⟩
                      have hcn : Wn.cell? ⟨W.heap.size, 0, none⟩ = some (.int .i64 (q : Int)) := by rw [← hWn, World.cell?_alloc_new]; rfl
                      have hzn : Wn.frozen? ⟨W.heap.size, 0, none⟩ = false := by
                        have h1 : Wn.heap[W.heap.size]? = some (.cells #[.int .i64 (q : Int)] 3 (0, 0)) := by rw [← hWn]; exact heap_alloc_new _ _
                        simp [World.frozen?, h1]
                      have hne : ∀ e ∈ ds2, e.target ≠ .collected D := fun e he h => by
                        have := marks_below HTK.out.marks e he D h
                        have := hx16.size
                        omega
                      obtain ⟨Wm, hWm⟩ : ∃ Wm, Wn.setCell ⟨W.heap.size, 0, none⟩ (.int .i64 ((q : Int) - 1)) = Wm := ⟨_, rfl⟩
                      have hTm := TrkSt.next (hqI ▸ hTW) hwoR hmk (by have := hx16.size; omega) hne hWn hWm
                      have HTM := Lib.hid hTm
                      clear hTm
                      gi_wp2_with fail
                      have hzz : (m : Int) - 1 - ((j + 1 : Nat) : Int) = (q : Int) - 1 := by omega
                      refine ⟨⟨j + 1, W.heap.size, _, _, _, _, _, _, _, v', _, ?_, hj, rfl⟩, ?_⟩
                      · rw [HTR.out, hzz]
                        exact HTM.out
                      · show (kOf Wm (.pointer (some ⟨W.heap.size, 0, none⟩)) + 1).toNat < (kOf wv (.pointer (some ⟨bk, 0, none⟩)) + 1).toNat
                        have h1 : Wm.cell? ⟨W.heap.size, 0, none⟩ = some (.int .i64 ((q : Int) - 1)) := by simp [World.cell?, HTM.out.kbox]
                        rw [kOf_cell h1, kOf_cell hkc]
                        omega
                  · have hje : j = m := by omega
                    subst hje
                    have hneg : ¬ (0 : Int) ≤ (j : Int) - 1 - j := by omega
                    have hzz : (j : Int) - 1 - j = -1 := by omega
                    rw [hzz] at hkc htk
                    have HTK := Lib.hid htk
                    clear htk hneg hzz
                    obtain ⟨D, cap, hvs⟩ : ∃ D cap, v = .slice D (trk n p to arr frm start j j).route.length cap := by
                      rcases HTK.out.own.2 with ⟨h1, h2⟩ | ⟨g, cap, _, h1, _⟩
                      · exact ⟨none, 0, by rw [h1, h2]⟩
                      · exact ⟨some ⟨g, 0, none⟩, cap, h1⟩
                    have hbRv : wv.heap[bR]? = some (.cells #[v] 29 (0, 0)) := HTK.out.rbox
                    have hbAv : wv.cell? ⟨bA, 0, none⟩ = some (.int .i64 arr) := by
                      rw [World.cell?_of_block (w := wo) (HTK.out.same.block bA (by omega) (by omega))]
                      exact arK wo hkb2
                    subst hvs
                    have hcRv : wv.cell? ⟨bR, 0, none⟩ = some (.slice D (trk n p to arr frm start j j).route.length cap) := by simp [World.cell?, hbRv]
                    have hzRv : wv.frozen? ⟨bR, 0, none⟩ = false := by simp [World.frozen?, hbRv]
                    have hbAv' : wv.heap[bA]? = some (.cells #[.int .i64 arr] 3 (0, 0)) := (HTK.out.same.block bA (by omega) (by omega)).trans ((hkb2.block bA (.inl (by omega))).trans ((hx58.block bA (by omega)).trans hA5))
                    have hzAv : wv.frozen? ⟨bA, 0, none⟩ = false := by simp [World.frozen?, hbAv']
                    have hneRA : bR ≠ bA := by omega
                    gi_wp2_with fail
                    refine wpIn_wide.2 (Code.wp_mono (Q := fun e a' w' => match e with | .normal => a' = ⟨#[.agg #[.int .i64 n.places, .slice A n.paths.length c], .agg #[.int .i64 p.grade, .int .i64 p.load, .int .i64 p.pace.lo, .int .i64 p.pace.hi], .int .i64 frm, .int .i64 start, .int .i64 to, .pointer (some ⟨w.heap.size, 0, none⟩), .pointer (some ⟨b1, 0, none⟩), undef, undef, .pointer (some ⟨bT, 0, none⟩), .pointer (some ⟨bR, 0, none⟩), .pointer (some ⟨bA, 0, none⟩), .int .i64 0, .pointer (some ⟨w2.heap.size, 0, none⟩), .int .i64 (j : Int), .pointer (some ⟨w7.heap.size + 1, 0, none⟩), u16, undef, undef, .pointer (some ⟨wo.heap.size, 0, none⟩), .pointer (some ⟨wo.heap.size + 1, 0, none⟩), .pointer (some ⟨bk, 0, none⟩), undef, undef, undef, .tuple #[.agg #[.int .i64 n.places, .slice A n.paths.length c, .int .i64 p.grade, .int .i64 p.load, .int .i64 p.pace.lo, .int .i64 p.pace.hi], .int .i64 0], .agg #[.int .i64 n.places, .slice A n.paths.length c], .agg #[.int .i64 p.grade, .int .i64 p.load, .int .i64 p.pace.lo, .int .i64 p.pace.hi], .int .i64 frm, .int .i64 to, .slice (some ⟨b5, 0, none⟩) 2 2, .int .i64 start, .slice (some ⟨b6, 0, none⟩) 1 1, .agg #[.slice (some ⟨b5, 0, none⟩) 2 2, .slice (some ⟨b6, 0, none⟩) 1 1], .tuple #[.agg #[.int .i64 n.places, .slice A n.paths.length c, .int .i64 p.grade, .int .i64 p.load, .int .i64 p.pace.lo, .int .i64 p.pace.hi], .int .i64 0], .agg #[.int .i64 n.places, .slice A n.paths.length c, .int .i64 p.grade, .int .i64 p.load, .int .i64 p.pace.lo, .int .i64 p.pace.hi], .int .i64 0, .int .i64 0, .bool false, undef, .agg #[.int .i64 n.places, .slice A n.paths.length c, .int .i64 p.grade, .int .i64 p.load, .int .i64 p.pace.lo, .int .i64 p.pace.hi], .int .i64 frm, .int .i64 start, .slice (some ⟨b4, 0, none⟩) l.length l.length, .int .i64 to, .pointer (some ⟨b4, to.toNat, none⟩), .int .i64 arr, .int .i64 arr, .bool false, .agg #[.int .i64 n.places, .slice A n.paths.length c, .int .i64 p.grade, .int .i64 p.load, .int .i64 p.pace.lo, .int .i64 p.pace.hi], .int .i64 frm, .int .i64 start, .slice (some ⟨gS, 0, none⟩) N capS, .func (.func 40) #[] #[.pointer (some ⟨bT, 0, none⟩), .pointer (some ⟨bA, 0, none⟩)], .int .i64 (j : Int), .int .i64 (j : Int), .int .i64 ((j : Int) + 1), .slice (some ⟨w7.heap.size, 0, none⟩) (j + 1) (j + 1), .slice (some ⟨w7.heap.size, 0, none⟩) (j + 1) (j + 1), .slice (some ⟨W8.heap.size, 0, none⟩) 1 1, .pointer (some ⟨w2.heap.size, 0, none⟩), .pointer (some ⟨w2.heap.size, 0, none⟩), .int .i64 n.places, .slice (some ⟨nx, 0, none⟩) N N, .pointer (some ⟨w7.heap.size, 0, none⟩), .slice (some ⟨w7.heap.size, 0, none⟩) (j + 1) (j + 1), .pointer (some ⟨w7.heap.size, 0, none⟩), .slice (some ⟨nx, 0, none⟩) N N, .int .i64 to, .int .i64 arr, .pointer (some ⟨nx, to.toNat, none⟩), .int .i64 (j : Int), .int .i64 (j : Int), .bool false, u74, u75, u76, u77, u78, u79, u80, u81, u82, u83, u84, u85, undef, undef, undef, undef, undef, undef, undef, undef, undef, undef, undef, undef, undef, undef, undef, undef, undef, undef, undef, undef, undef, undef, undef, undef, undef, undef, undef, undef, undef, undef, undef, u117, .int .i64 frm, .int .i64 start, .int .i64 (j : Int), .int .i64 ((j : Int) - 1), .int .i64 (-1), .bool false, q124, q125, q126, q127, undef, undef, undef, undef, undef, undef, undef, undef, undef, undef, undef, undef, undef, undef, undef, undef, undef, undef, undef, undef, undef, undef, undef, undef, undef, undef, undef, undef, undef, undef, undef, q159, .slice D (trk n p to arr frm start j j).route.length cap, .int .i64 arr], ds2⟩ ∧ (w' = (wv.drew.setCell ⟨bR, 0, none⟩ (.slice D (trk n p to arr frm start j j).route.length cap)).setCell ⟨bA, 0, none⟩ (.int .i64 arr) ∨ w' = (wv.drew.setCell ⟨bA, 0, none⟩ (.int .i64 arr)).setCell ⟨bR, 0, none⟩ (.slice D (trk n p to arr frm start j j).route.length cap)) | _ => False) ?post ?reg)
                    case reg =>
                      go_region
                      all_goals first
                        | exact ⟨rfl, .inl rfl⟩
                        | exact ⟨rfl, .inr rfl⟩
                        | trace_state
                    case post =>
                      intro e a' w' h
                      cases e with
                      | normal =>
                        obtain ⟨rfl, hw⟩ := h
                        have htwo := two_of hneRA hbRv hbAv' hw
                        have hxw' : Ext w w' := by
                          have h1 : Ext w wv := OnlyB.ext (hxK wo hkb2) HTK.out.same (by omega)
                          have h2 := HTK.out.same.size
                          exact ⟨htwo.os.trans h1.os, htwo.tape.trans h1.tape, htwo.output.trans h1.output, Nat.le_trans h1.size htwo.size, fun r hr => (htwo.blk r (by omega) (by omega)).trans (h1.block r hr)⟩
                        have hmk' : Marks w' ds2 := marks_kept HTK.out.marks fun E hE _ => (htwo.blk E (fun e => by rw [e, hbRv] at hE; cases hE) (fun e => by rw [e, hbAv'] at hE; cases hE)).trans hE
                        have hmf' : MarksFrom w.heap.size ds2 := fun d hd E hE => Nat.le_trans hw7 (HTK.out.from_ d hd E hE)
                        have hown' : w'.ownsRow (wo.heap.size + 2) 3 1 (.slice D (trk n p to arr frm start j j).route.length cap) (trk n p to arr frm start j j).route.length ((trk n p to arr frm start j j).route.map (Value.int .i64)) :=
                          owns_same HTK.out.own (fun g c f hg _ => htwo.blk g (fun e => by have := (owns_lt HTK.out.own hg).1; omega) (fun e => by have := (owns_lt HTK.out.own hg).1; omega))
                        have HTWO := Lib.hid htwo
                        have HXW := Lib.hid hxw'
                        have HMK := Lib.hid hmk'
                        have HMF := Lib.hid hmf'
                        have HOWN := Lib.hid hown'
                        clear hw htwo hxw' hmk' hmf' hown'
                        gi_wp2_with fail
                        refine leaves_marks (n0 := w.heap.size) (v := .tuple #[.slice D (trk n p to arr frm start j j).route.length cap, .int .i64 arr, .int .i64 0]) ds2 _ HMK.out HMF.out (fun W hsh => ⟨results_route _ _ bR bA _ _ rfl rfl ?_ ?_, l, HA4.out, Ext.trans_shut HXW.out hsh, .inr ⟨by rw [← HARR.out]; exact hav, j, D, cap, by rw [← HNN.out]; exact hmN, ?_, ?_, ?_, ?_⟩⟩)
                        · obtain ⟨o, ho, hc, hv⟩ := HTWO.out.r
                          exact hv W (hsh.cells _ _ ho hc)
                        · obtain ⟨o, ho, hc, hv⟩ := HTWO.out.a
                          exact hv W (hsh.cells _ _ ho hc)
                        · rw [← HARR.out]; exact HMA.out
                        · rw [← HARR.out]; exact HMB.out
                        · rw [← HARR.out]; exact owns_weaken (owns_shut HOWN.out hsh) (by have := (hxK wo hkb2).size; omega)
                        · rw [← HARR.out]
                      | _ => exact h.elim
          | _ => exact h.elim
    | _ => exact h.elim
end Go.Proofs.Ytnjlpkdpmbpblaa
