/- Walk: bivouaclaw01.eased at what is valid. Conditions: the slices read as lists; the net is valid and has at most nine paths; the party is valid; the ease is in range. -/
import Derived.Test.YtnjlpkdpmbpblaaEasedA
import Derived.Test.YtnjlpkdpmbpblaaLx35
import Derived.Test.YtnjlpkdpmbpblaaEArrive
set_option linter.unusedVariables false
set_option linter.unusedSimpArgs false
namespace Go.Proofs.Ytnjlpkdpmbpblaa
open Go.RowKit Go.Shelf Go.Sort Go.Proofs.YtnjlpkdpmbpblaaW.PrintWords
attribute [local go_sem] Oper.semAt_some
theorem rd_at {l : List PathS} {j : Nat} (h : j < l.length) : L.rd_T34 l (j : Int) = l[j] := by
  simp [L.rd_T34, List.getD_eq_getElem?_getD, List.getElem?_eq_getElem h]
theorem pathS_eta (x : PathS) : (⟨x.f0, x.f1, x.f2, (⟨x.f3.f0, x.f3.f1⟩ : SpanS), (⟨x.f4.f0, x.f4.f1⟩ : SpanS), ([] : List SpanS) ++ x.f5⟩ : PathS) = x := by cases x; rfl
theorem copy_l0 (places : Int) (l : List PathS) (hl : l.length ≤ 1000) (hop : ∀ x ∈ l, x.f5.length ≤ 1000) : ∀ (d i k : Nat), i + d = l.length → d < k → L.bivouacref01_Copy.l0 k (i : Int) places l places (l.take i) = some (places, l) := by
  intro d
  induction d with
  | zero =>
    intro i k hi hk
    obtain ⟨k, rfl⟩ : ∃ m, k = m + 1 := ⟨k - 1, by omega⟩
    simp only [L.bivouacref01_Copy.l0]
    rw [if_neg (by omega), List.take_of_length_le (by omega)]
  | succ d ih =>
    intro i k hi hk
    obtain ⟨k, rfl⟩ : ∃ m, k = m + 1 := ⟨k - 1, by omega⟩
    have hlt : i < l.length := by omega
    have hb := hop l[i] (List.getElem_mem hlt)
    simp only [L.bivouacref01_Copy.l0, Option.bind_some]
    rw [if_pos (by omega), if_pos (by omega), rd_at hlt, if_pos (by simp only [List.length_nil]; omega), if_pos (by rw [List.length_take]; omega), pathS_eta]
    have hw : wrap64 ((i : Int) + 1) = ((i + 1 : Nat) : Int) := by unfold wrap64; omega
    rw [hw, ← List.take_succ_eq_append_getElem hlt]
    exact ih (i + 1) k (by omega) (by omega)
theorem copy_f (places : Int) (l : List PathS) (hl : l.length ≤ 1000) (hop : ∀ x ∈ l, x.f5.length ≤ 1000) : L.bivouacref01_Copy.f (l.length + 1) places l = some (places, l) := copy_l0 places l hl hop l.length 0 (l.length + 1) (by omega) (by omega)
/-- Copy, in words of this family -/
theorem law01_copy (places : Int) (A : Option Addr) (c : Nat) (l : List PathS) (w : World) (hr : Kd.C L.k34 w A l.length l) (hc : l.length ≤ c) (hl : l.length ≤ 1000) (hop : ∀ x ∈ l, x.f5.length ≤ 1000) :
    Calls Try.prog 21 #[.agg #[.int .i64 places, .slice A l.length c]] w fun e w' => ∃ v V, e = .returned (.agg #[.int .i64 places, v]) ∧ NN w' w.heap.size v l V ∧ Ext w w' :=
  (L.bivouacref01_Copy.calls (l.length + 1) places A c l places l w hr hc (copy_f places l hl hop)).mono fun e w' ⟨v, he, hs, hb⟩ => by
    obtain ⟨V, hV⟩ := nn_of_S hs
    exact ⟨v, V, he, hV, hb⟩
structure Eas where
  later : Int
  pace : Int
  load : Int
  path : Int
  grade : Int
  snow : Int
  opens : Int
  more : PathS
def easedX (x : PathS) (y : Eas) : PathS := ⟨x.f0, x.f1, max 1 (x.f2 - y.grade), x.f3, ⟨max 0 (x.f4.f0 - y.snow), max 0 (x.f4.f1 - y.snow)⟩, if x.f5.length < 6 ∧ 0 ≤ y.opens ∧ y.opens ≤ 2880 then x.f5 ++ [⟨y.opens, min 2880 (y.opens + 60)⟩] else x.f5⟩
def easedB (l : List PathS) (y : Eas) : List PathS := if h : 0 ≤ y.path ∧ y.path < l.length then l.set y.path.toNat (easedX (l[y.path.toNat]'(by omega)) y) else l
def easedL (places : Int) (l : List PathS) (y : Eas) : List PathS := if netOk (ntOf places (easedB l y ++ [y.more])) = true then easedB l y ++ [y.more] else easedB l y
def vEas (y : Eas) (A : Option Addr) (c : Nat) : Value := .agg #[.int .i64 y.later, .int .i64 y.pace, .int .i64 y.load, .int .i64 y.path, .int .i64 y.grade, .int .i64 y.snow, .int .i64 y.opens, .int .i64 y.more.f0, .int .i64 y.more.f1, .int .i64 y.more.f2, .int .i64 y.more.f3.f0, .int .i64 y.more.f3.f1, .int .i64 y.more.f4.f0, .int .i64 y.more.f4.f1, .slice A y.more.f5.length c]
set_option maxRecDepth 100000 in
set_option maxHeartbeats 16000000 in
theorem law01_eased (places : Int) (l : List PathS) (p : Pty) (y : Eas) (A Am : Option Addr) (c cm : Nat) (w : World) (hr : Kd.C L.k34 w A l.length l) (hc : l.length ≤ c) (hm : Kd.C L.k26 w Am y.more.f5.length y.more.f5) (hok : netOk (ntOf places l) = true) (hpk : partyOk p = true)
    (y1 : 0 ≤ y.pace ∧ y.pace ≤ 300) (y2 : 0 ≤ y.load ∧ y.load ≤ 100) (y3 : 0 ≤ y.grade ∧ y.grade ≤ 10) (y4 : 0 ≤ y.snow ∧ y.snow ≤ 100) (y5 : y.more.f5.length ≤ 20) (hl : l.length ≤ 9) :
    Calls Try.prog 9 #[.agg #[.int .i64 places, .slice A l.length c], vPty p, vEas y Am cm] w fun e w' => ∃ (A' : Option Addr) (c' : Nat) (B : Nat → Option Addr) (C : Nat → Nat),
      e = .returned (.tuple #[.agg #[.int .i64 places, .slice A' (easedL places l y).length c'], .agg #[.int .i64 p.grade, .int .i64 (max 0 (p.load - y.load)), .int .i64 (max 50 (p.pace.lo - y.pace)), .int .i64 (max 50 (p.pace.hi - y.pace))]]) ∧
      Pths w' A' B C ((easedL places l y).map pthOf) ∧ Ext w w' := by
  dsimp only [vPty, vEas]
  have HR := Lib.hid hr
  have HOK := Lib.hid hok
  have HPK := Lib.hid hpk
  have HM := Lib.hid hm
  clear hr hok hpk hm
  go_enter Try.func9, Try.ntmps9
  go_wp2_with fail
  obtain ⟨W0, hW0⟩ : ∃ W0, ((((w.alloc (.cells #[.int .i64 places, .slice A l.length c] 24)).alloc (.cells #[.int .i64 p.grade, .int .i64 p.load, .int .i64 p.pace.lo, .int .i64 p.pace.hi] 28)).alloc (.cells #[.int .i64 y.later, .int .i64 y.pace, .int .i64 y.load, .int .i64 y.path, .int .i64 y.grade, .int .i64 y.snow, .int .i64 y.opens, .int .i64 y.more.f0, .int .i64 y.more.f1, .int .i64 y.more.f2, .int .i64 y.more.f3.f0, .int .i64 y.more.f3.f1, .int .i64 y.more.f4.f0, .int .i64 y.more.f4.f1, .slice Am y.more.f5.length cm] 36)).alloc (.cells #[.int .i64 0, .slice none 0 0] 24)).alloc (.cells #[.int .i64 0, .int .i64 0, .int .i64 0, .int .i64 0] 28) = W0 := ⟨_, rfl⟩
  have hx0 : Ext w W0 := hW0 ▸ (((((Ext.refl w).alloc _).alloc _).alloc _).alloc _).alloc _
  have hs0 : W0.heap.size = w.heap.size + 1 + 1 + 1 + 1 + 1 := by rw [← hW0]; simp
  have hbp : W0.heap[w.heap.size + 1]? = some (.cells #[.int .i64 p.grade, .int .i64 p.load, .int .i64 p.pace.lo, .int .i64 p.pace.hi] 28 (0, 0)) := by
    rw [← hW0]
    refine (((((Ext.refl _).alloc _).alloc _).alloc _).block _ ?_).trans (heap_alloc_new' (by simp))
    simp
  have hby : W0.heap[w.heap.size + 1 + 1]? = some (.cells #[.int .i64 y.later, .int .i64 y.pace, .int .i64 y.load, .int .i64 y.path, .int .i64 y.grade, .int .i64 y.snow, .int .i64 y.opens, .int .i64 y.more.f0, .int .i64 y.more.f1, .int .i64 y.more.f2, .int .i64 y.more.f3.f0, .int .i64 y.more.f3.f1, .int .i64 y.more.f4.f0, .int .i64 y.more.f4.f1, .slice Am y.more.f5.length cm] 36 (0, 0)) := by
    rw [← hW0]
    refine ((((Ext.refl _).alloc _).alloc _).block _ ?_).trans (heap_alloc_new' (by simp))
    simp
  have hbr : W0.heap[w.heap.size + 1 + 1 + 1]? = some (.cells #[.int .i64 0, .slice none 0 0] 24 (0, 0)) := by
    rw [← hW0]
    refine (((Ext.refl _).alloc _).block _ ?_).trans (heap_alloc_new' (by simp))
    simp
  have hbq : W0.heap[w.heap.size + 1 + 1 + 1 + 1]? = some (.cells #[.int .i64 0, .int .i64 0, .int .i64 0, .int .i64 0] 28 (0, 0)) := by
    rw [← hW0]
    exact heap_alloc_new' (by simp)
  have hopn : ∀ x ∈ l, x.f5.length ≤ 1000 := by
    intro x hx
    have h1 := (pathOk_iff.1 ((netOk_iff.1 HOK.out).2.2 (pthOf x) (List.mem_map_of_mem hx))).2.2.2.2.2.2.1
    simp only [pthOf, List.length_map] at h1
    omega
  have hcp := law01_copy places A c l W0 (Kd.C_below HR.out hx0) hc (by omega) hopn
  have HCP := Lib.hid hcp
  clear hcp hopn
  rw [hW0]
  clear hW0
  generalize e1 : w.heap.size + 1 = bp at *
  generalize e2 : bp + 1 = bY at *
  generalize e3 : bY + 1 = bR at *
  generalize e4 : bR + 1 = bQ at *
  have hbs : w.heap.size < bp ∧ bp < bY ∧ bY < bR ∧ bR < bQ ∧ bQ < W0.heap.size := by omega
  obtain ⟨b1, b2, b3, b4, b5⟩ := hbs
  have n1 : bp ≠ bY := by omega
  have n2 : bY ≠ bp := by omega
  have n4 : bR ≠ bp := by omega
  have n5 : bQ ≠ bp := by omega
  have n6 : bR ≠ bQ := by omega
  have n7 : bQ ≠ bR := by omega
  have n10 : bp ≠ bR := by omega
  have n11 : bp ≠ bQ := by omega
  have lP : w.heap.size ≤ bp := by omega
  have lR : w.heap.size ≤ bR := by omega
  have lQ : w.heap.size ≤ bQ := by omega
  have tP : bp < W0.heap.size := by omega
  have tR : bR < W0.heap.size := by omega
  clear e1 e2 e3 e4 hs0
  refine HCP.out.mono ?_
  clear HCP
  rintro e w1 ⟨v, V, rfl, hnn, hx1⟩
  obtain ⟨D, cap, rfl, hlm, hD⟩ := owns_slice hnn.own
  have HNN := Lib.hid hnn
  clear hnn
  have yE : ∀ W9 j, Ext W0 W9 → W9.cell? ⟨bY, j, none⟩ = (#[.int .i64 y.later, .int .i64 y.pace, .int .i64 y.load, .int .i64 y.path, .int .i64 y.grade, .int .i64 y.snow, .int .i64 y.opens, .int .i64 y.more.f0, .int .i64 y.more.f1, .int .i64 y.more.f2, .int .i64 y.more.f3.f0, .int .i64 y.more.f3.f1, .int .i64 y.more.f4.f0, .int .i64 y.more.f4.f1, .slice Am y.more.f5.length cm] : Array Value)[j]? := fun W9 j h => by rw [h.cell (by simp; omega)]; simp [World.cell?, hby]
  go_wp2_with fail
  have hip := ref01_IsPath (ntOf places l) D cap y.path (w1.alloc (.cells #[.int .i64 places, .slice D l.length cap] 24)) (by simp only [ntOf, List.length_map]; omega)
  simp only [vNt, ntOf, List.length_map] at hip
  obtain ⟨W1, hW1⟩ : ∃ W1, w1.alloc (.cells #[.int .i64 places, .slice D l.length cap] 24) = W1 := ⟨_, rfl⟩
  rw [hW1] at hip ⊢
  have hx1' : Ext w1 W1 := hW1 ▸ (Ext.refl _).alloc _
  have hbm : W1.heap[w1.heap.size]? = some (.cells #[.int .i64 places, .slice D l.length cap] 24 (0, 0)) := by rw [← hW1]; exact heap_alloc_new _ _
  have hs1 : w1.heap.size < W1.heap.size := by rw [← hW1]; simp
  clear hW1
  generalize hbme : w1.heap.size = bm at *
  have hbm0 : W0.heap.size ≤ bm := hbme ▸ hx1.size
  have n3 : bm ≠ bp := by omega
  have n8 : bm ≠ bR := by omega
  have n9 : bm ≠ bQ := by omega
  have hx01 : Ext W0 W1 := hx1.trans hx1'
  have HN1 := Lib.hid (HNN.out.ext hx1')
  clear HNN hx1 hx1' hbme
  by_cases hP : 0 ≤ y.path ∧ y.path < l.length
  · obtain ⟨q, hq, hqi⟩ : ∃ q : Nat, q < l.length ∧ y.path = q := ⟨y.path.toNat, by omega, by omega⟩
    obtain ⟨g, rfl⟩ := hD (by omega)
    have hw : within y.path 0 ((l.length : Int) - 1) = true := within_iff.2 (by omega)
    rw [hw] at hip
    have HIP := Lib.hid hip
    have HQI := Lib.hid hqi
    clear hip hw hP hqi hD
    refine HIP.out.mono ?_
    rintro e w2 ⟨rfl, hx2⟩
    have mE : ∀ W9 j, Ext W1 W9 → W9.cell? ⟨bm, j, none⟩ = (#[.int .i64 places, .slice (some ⟨g, 0, none⟩) l.length cap] : Array Value)[j]? := fun W9 j h => by rw [h.cell (by simp; omega)]; simp [World.cell?, hbm]
    rw [HQI.out] at yE
    obtain ⟨x, hx⟩ : ∃ x, x = l[q] := ⟨_, rfl⟩
    have x0 : ∀ W, Ext W1 W → W.cell? ⟨g, q * 8, none⟩ = some (.int .i64 x.f0) := HN1.out.cell hq 0 _ (by rw [← hx]; rfl)
    have x1 : ∀ W, Ext W1 W → W.cell? ⟨g, q * 8 + 1, none⟩ = some (.int .i64 x.f1) := HN1.out.cell hq 1 _ (by rw [← hx]; rfl)
    have x2 : ∀ W, Ext W1 W → W.cell? ⟨g, q * 8 + 2, none⟩ = some (.int .i64 x.f2) := HN1.out.cell hq 2 _ (by rw [← hx]; rfl)
    have x3 : ∀ W, Ext W1 W → W.cell? ⟨g, q * 8 + 3, none⟩ = some (.int .i64 x.f3.f0) := HN1.out.cell hq 3 _ (by rw [← hx]; rfl)
    have x4 : ∀ W, Ext W1 W → W.cell? ⟨g, q * 8 + 4, none⟩ = some (.int .i64 x.f3.f1) := HN1.out.cell hq 4 _ (by rw [← hx]; rfl)
    have x5 : ∀ W, Ext W1 W → W.cell? ⟨g, q * 8 + 5, none⟩ = some (.int .i64 x.f4.f0) := HN1.out.cell hq 5 _ (by rw [← hx]; rfl)
    have x6 : ∀ W, Ext W1 W → W.cell? ⟨g, q * 8 + 6, none⟩ = some (.int .i64 x.f4.f1) := HN1.out.cell hq 6 _ (by rw [← hx]; rfl)
    have x7 : ∀ W, Ext W1 W → W.cell? ⟨g, q * 8 + 7, none⟩ = some (V q) := HN1.out.cell hq 7 _ (by rw [← hx]; rfl)
    have hxo : 1 ≤ x.f2 ∧ x.f2 ≤ 6 ∧ 0 ≤ x.f4.f0 ∧ x.f4.f0 ≤ x.f4.f1 ∧ x.f4.f1 ≤ 30 := by
      have h1 := pathOk_iff.1 ((netOk_iff.1 HOK.out).2.2 (pthOf x) (List.mem_map_of_mem (by rw [hx]; exact List.getElem_mem hq)))
      exact ⟨h1.2.2.2.1.1, h1.2.2.2.1.2, h1.2.2.2.2.2.1.1, h1.2.2.2.2.2.1.2.1, h1.2.2.2.2.2.1.2.2⟩
    obtain ⟨g1, g2, s1, s2, s3⟩ := hxo
    obtain ⟨Dq, cq, hVq, hlq, _⟩ := owns_slice (HN1.out.inn q x (by rw [hx]; exact List.getElem?_eq_getElem hq))
    rw [hVq] at x7
    have HVQ := Lib.hid hVq
    have HX := Lib.hid hx
    clear hVq hx
    have hx12 : Ext W0 w2 := hx01.trans hx2
    go_upto_region 6 with (fail)
    obtain ⟨gr, hgr⟩ : ∃ gr : Int, gr = max 1 (x.f2 - y.grade) := ⟨_, rfl⟩
    obtain ⟨sl, hsl⟩ : ∃ sl : Int, sl = max 0 (x.f4.f0 - y.snow) := ⟨_, rfl⟩
    obtain ⟨sh, hsh⟩ : ∃ sh : Int, sh = max 0 (x.f4.f1 - y.snow) := ⟨_, rfl⟩
    rw [show (if 1 < x.f2 - y.grade then x.f2 - y.grade else 1) = gr by rw [hgr]; split <;> omega, show (if y.snow < x.f4.f0 then x.f4.f0 - y.snow else 0) = sl by rw [hsl]; split <;> omega, show (if y.snow < x.f4.f1 then x.f4.f1 - y.snow else 0) = sh by rw [hsh]; split <;> omega]
    obtain ⟨W2, hW2⟩ : ∃ W2, w2.alloc (.cells #[.int .i64 x.f0, .int .i64 x.f1, .int .i64 gr, .int .i64 x.f3.f0, .int .i64 x.f3.f1, .int .i64 sl, .int .i64 sh, .slice Dq x.f5.length cq] 34) = W2 := ⟨_, rfl⟩
    rw [hW2]
    have hx22 : Ext w2 W2 := hW2 ▸ (Ext.refl _).alloc _
    have hbx : W2.heap[w2.heap.size]? = some (.cells #[.int .i64 x.f0, .int .i64 x.f1, .int .i64 gr, .int .i64 x.f3.f0, .int .i64 x.f3.f1, .int .i64 sl, .int .i64 sh, .slice Dq x.f5.length cq] 34 (0, 0)) := by rw [← hW2]; exact heap_alloc_new _ _
    have hs2 : w2.heap.size < W2.heap.size := by rw [← hW2]; simp
    clear hW2
    generalize hbxe : w2.heap.size = bx at *
    have hbx1 : W1.heap.size ≤ bx := hbxe ▸ hx2.size
    have hx12' : Ext W1 W2 := hx2.trans hx22
    have hx02' : Ext W0 W2 := hx12.trans hx22
    have HN2 := Lib.hid (HN1.out.ext hx12')
    have HGR := Lib.hid hgr
    have HSL := Lib.hid hsl
    have HSH := Lib.hid hsh
    have k0 := x0 W2 hx12'
    have k1 := x1 W2 hx12'
    have k2 := x2 W2 hx12'
    have k3 := x3 W2 hx12'
    have k4 := x4 W2 hx12'
    have k5 := x5 W2 hx12'
    have k6 := x6 W2 hx12'
    have k7 := x7 W2 hx12'
    clear hx2 hx12 hx22 hbxe hgr hsl hsh x0 x1 x2 x3 x4 x5 x6 x7
    have xbE : ∀ W9 j, Ext W2 W9 → W9.cell? ⟨bx, j, none⟩ = (#[.int .i64 x.f0, .int .i64 x.f1, .int .i64 gr, .int .i64 x.f3.f0, .int .i64 x.f3.f1, .int .i64 sl, .int .i64 sh, .slice Dq x.f5.length cq] : Array Value)[j]? := fun W9 j h => by rw [h.cell (by simp; omega)]; simp [World.cell?, hbx]
    have gz : ∀ j, W2.frozen? ⟨g, j, none⟩ = false := fun j => HN2.out.own.frozenAt j
    have hbm2 : W2.heap[bm]? = some (.cells #[.int .i64 places, .slice (some ⟨g, 0, none⟩) l.length cap] 24 (0, 0)) := (hx12'.block bm hs1).trans hbm
    have hown2 := HN2.out.inn q x (by rw [HX.out]; exact List.getElem?_eq_getElem hq)
    rw [HVQ.out] at hown2
    have HOW2 := Lib.hid hown2
    clear hown2
    have hap2 : ∀ j b, j ≠ q → j < l.length → (Value.slice Dq x.f5.length cq).ownBlock = some b → (V j).ownBlock ≠ some b := fun j b hj hjl h => HN2.out.apart q j b (Ne.symm hj) hq hjl (by rw [HVQ.out]; exact h)
    have HAP2 := Lib.hid hap2
    clear hap2
    by_cases c1 : x.f5.length < 6
    · by_cases c2 : 0 ≤ y.opens ∧ y.opens ≤ 2880
      · have hw2 : within y.opens 0 2880 = true := within_iff.2 c2
        have hmi := ref01_IsMinute y.opens W2
        rw [hw2] at hmi
        have HMI := Lib.hid hmi
        obtain ⟨o1, o2⟩ := c2
        clear hmi hw2
        obtain ⟨mm, hmm⟩ : ∃ mm : Int, mm = min 2880 (y.opens + 60) := ⟨_, rfl⟩
        have hmi2 : (if y.opens + 60 < 2880 then y.opens + 60 else 2880) = mm := by rw [hmm]; split <;> omega
        obtain ⟨ops, hops⟩ : ∃ ops : List SpanS, ops = x.f5 ++ [⟨y.opens, mm⟩] := ⟨_, rfl⟩
        have hol : ops.length = x.f5.length + 1 := by rw [hops]; simp
        have HOPS : Hid ((easedX x y).f5 = ops) := Lib.hid (by rw [hops, hmm]; simp only [easedX]; rw [if_pos ⟨c1, o1, o2⟩])
        have hsc : scells x.f5 ++ [.int .i64 y.opens, .int .i64 mm] = scells ops := by rw [hops, scells_snoc]
        have HSC := Lib.hid hsc
        have HOL := Lib.hid hol
        clear hmm hops hol hsc
        obtain ⟨WB, hWB⟩ : ∃ WB, W2.alloc (.cells #[.int .i64 y.opens, .int .i64 mm] 26) = WB := ⟨_, rfl⟩
        have hxB : Ext W2 WB := hWB ▸ (Ext.refl _).alloc _
        have hna : WB.heap[W2.heap.size]? = some (.cells #[.int .i64 y.opens, .int .i64 mm] 26 (0, 0)) := by rw [← hWB]; exact heap_alloc_new _ _
        have hsB : WB.heap.size = W2.heap.size + 1 := by rw [← hWB]; simp
        have hownB := owns_pw HOW2.out hxB
        have hxb : WB.heap[bx]? = some (.cells #[.int .i64 x.f0, .int .i64 x.f1, .int .i64 gr, .int .i64 x.f3.f0, .int .i64 x.f3.f1, .int .i64 sl, .int .i64 sh, .slice Dq x.f5.length cq] 34 (0, 0)) := (hxB.block bx hs2).trans hbx
        have hrow : ∀ (k : Nat) (c : Array Value) (t : TypeId) (f : Nat × Nat), WB.heap[k]? = some (.cells c t f) → t ≠ 26 → ∀ w10, WB.grownBy w10 (Value.slice Dq x.f5.length cq).ownBlock → w10.heap[k]? = some (.cells c t f) := fun k c t f hk ht w10 hg =>
          (hg.block k (Array.getElem?_eq_some_iff.1 hk).1 (fun e => by
            obtain ⟨_, _, c9, hc9⟩ := owns_lt hownB e.symm
            exact block_ne_of_type hk hc9 ht rfl)).trans hk
        have hx0B : Ext W0 WB := hx02'.trans hxB
        have hbase : W0.heap.size ≤ WB.heap.size := hx0B.size
        have hcap : x.f5.length + 1 ≤ maxLen := Nat.le_trans (show x.f5.length + 1 ≤ 10 by omega) (by decide)
        have HC := Lib.hid hcap
        have HOWB := Lib.hid hownB
        have HROW := Lib.hid hrow
        have HXB := Lib.hid hxb
        have HSB := Lib.hid hsB
        clear hcap hownB hrow hxb hsB
        go_wp2_with fail
        refine HMI.out.mono ?_
        rintro e w3 ⟨rfl, rfl⟩
        obtain ⟨i6, hj, hj0, hj1, hj2⟩ := info_parts L.info26
        have HJ := Lib.hid hj
        clear hj HMI
        go_upto_region 8 with (at_builtin; refine wpList_append_own_at _ rfl _ _ 32 rfl W0.heap.size 26 i6 (.agg #[.int .i64 0, .int .i64 0]) 2 16 Try.underlying32 HJ.out hj0 hj1 hj2 rfl (by decide) (.slice Dq x.f5.length cq) x.f5.length (scells x.f5) rfl HOWB.out ⟨W2.heap.size, 0, none⟩ 1 1 [.int .i64 y.opens, .int .i64 mm] rfl rfl (World.news_of_block hna) (by simp [Value.oneCell']) HC.out (by omega) hbase ?_; intro v' w5 hown' hgr hnil hat; clear hnil; have n5b := HROW.out _ _ _ _ HXB.out (by decide) _ hgr; obtain ⟨g5, c5, rfl, hg51, hg52⟩ := hown'.form (by omega); have nb7 : w5.cell? ⟨bx, 7, none⟩ = some (.slice Dq x.f5.length cq) := (by simp [World.cell?, n5b]); have nbz : ∀ j, w5.frozen? ⟨bx, j, none⟩ = false := (by intro j; simp [World.frozen?, n5b]))
        obtain ⟨W6, hW6⟩ : ∃ W6, w5.setCell ⟨bx, 7, none⟩ (.slice (some ⟨g5, 0, none⟩) (x.f5.length + 1) c5) = W6 := ⟨_, rfl⟩
        rw [hW6]
        have hb6 : W6.heap[bx]? = some (.cells #[.int .i64 x.f0, .int .i64 x.f1, .int .i64 gr, .int .i64 x.f3.f0, .int .i64 x.f3.f1, .int .i64 sl, .int .i64 sh, .slice (some ⟨g5, 0, none⟩) (x.f5.length + 1) c5] 34 (0, 0)) := by rw [← hW6]; simp [World.setCell, Array.getElem?_modify, n5b]
        have ho6 : ∀ k, k ≠ bx → W6.heap[k]? = w5.heap[k]? := fun k hk => by rw [← hW6, heap_set_other (by exact hk)]
        have hown5 := owns_store hown' (g := bx) (fun e => by
          obtain ⟨_, _, c9, hc9⟩ := owns_lt hown' e
          exact block_ne_of_type hc9 n5b (by decide) rfl) 7 (.slice (some ⟨g5, 0, none⟩) (x.f5.length + 1) c5)
        rw [hW6, HSC.out] at hown5
        have hown6 : W6.ownsRow W0.heap.size 26 2 (.slice (some ⟨g5, 0, none⟩) ops.length c5) ops.length (scells ops) := by rw [HOL.out]; exact hown5
        have hx05 : Ext W0 w5 := ⟨hgr.os.trans hx0B.os, hgr.tape.trans hx0B.tape, hgr.output.trans hx0B.output, Nat.le_trans hx0B.size hgr.size, fun k hk => (hgr.block k (Nat.lt_of_lt_of_le hk hx0B.size) (fun e => by have := (owns_lt HOWB.out e.symm).1; omega)).trans (hx0B.block k hk)⟩
        have hbx0 : W0.heap.size ≤ bx := Nat.le_trans (Nat.le_trans hbm0 (Nat.le_of_lt hs1)) hbx1
        have hxo : Ext W0 W6 := hW6 ▸ hx05.setCell (p := ⟨bx, 7, none⟩) hbx0 _
        have hbmne : bm ≠ bx := by omega
        have hbmo : W6.heap[bm]? = some (.cells #[.int .i64 places, .slice (some ⟨g, 0, none⟩) l.length cap] 24 (0, 0)) := (ho6 bm hbmne).trans (HROW.out _ _ _ _ ((hxB.block bm (Array.getElem?_eq_some_iff.1 hbm2).1).trans hbm2) (by decide) _ hgr)
        have hgbx : g ≠ bx := by have h1 := (owns_lt HN1.out.own (g := g) rfl).2.1; omega
        have hrg : ∀ (c : Array Value) (f : Nat × Nat), W2.heap[g]? = some (.cells c 34 f) → W6.heap[g]? = W2.heap[g]? := fun c f hg => by
          rw [ho6 g hgbx, HROW.out _ _ _ _ ((hxB.block g (Array.getElem?_eq_some_iff.1 hg).1).trans hg) (by decide) _ hgr, hg]
        have hno1 : W6.ownsRow W0.heap.size 34 8 (.slice (some ⟨g, 0, none⟩) l.length cap) l.length (pcells V 0 l) := owns_same HN2.out.own (fun k c f hk hb => by
          have e : g = k := by simpa [Value.ownBlock] using hk
          subst e
          exact hrg c f hb)
        have hno2 : ∀ j x, j ≠ q → l[j]? = some x → W6.ownsRow W0.heap.size 26 2 (V j) x.f5.length (scells x.f5) := fun j x9 hjq hj => by
          have hjl := (List.getElem?_eq_some_iff.1 hj).1
          refine owns_same (HN2.out.inn j x9 hj) (fun k c f hk hb => ?_)
          have hkx : k ≠ bx := block_ne_of_type hb hbx (by decide)
          rw [ho6 k hkx]
          refine (hgr.block k (Nat.lt_of_lt_of_le (Array.getElem?_eq_some_iff.1 hb).1 hxB.size) (fun e => ?_)).trans (hxB.block k (Array.getElem?_eq_some_iff.1 hb).1)
          exact HAP2.out j k hjq hjl e.symm hk
        have hap6 : ∀ j b, j ≠ q → j < l.length → (Value.slice (some ⟨g5, 0, none⟩) ops.length c5).ownBlock = some b → (V j).ownBlock ≠ some b := fun j b hjq hjl hb hv => by
          have hb' : (Value.slice (some ⟨g5, 0, none⟩) (x.f5.length + 1) c5).ownBlock = some b := hb
          rcases hat with h9 | h9
          · exact HAP2.out j b hjq hjl (h9.symm.trans hb') hv
          · have h8 := (owns_lt (HN2.out.inn j l[j] (List.getElem?_eq_getElem hjl)) hv).2.1
            rw [h9] at hb'
            injection hb' with hb'
            have := HSB.out
            omega
        have HNO1 := Lib.hid hno1
        have HNO2 := Lib.hid hno2
        have HNO3 := Lib.hid (fun i j b h1 (_ : i ≠ q) (_ : j ≠ q) h2 h3 => HN2.out.apart i j b h1 h2 h3)
        have HOW := Lib.hid hown6
        have HAP := Lib.hid hap6
        have gz6 : ∀ j, W6.frozen? ⟨g, j, none⟩ = false := fun j => HNO1.out.frozenAt j
        have kk : ∀ i u, (pcell x (V q))[i]? = some u → W6.cell? ⟨g, q * 8 + i, none⟩ = some u := fun i u hu => by
          have h1 := HNO1.out.cells (g := g) rfl (q * 8 + i) u (by rw [pcells_get V l 0 q i l[q] (List.getElem?_eq_getElem hq) (List.getElem?_eq_some_iff.1 hu).1, Nat.zero_add, ← HX.out]; exact hu)
          rwa [add_lit', Nat.zero_add] at h1
        have j0 := kk 0 _ rfl
        have j1 := kk 1 _ rfl
        have j2 := kk 2 _ rfl
        have j3 := kk 3 _ rfl
        have j4 := kk 4 _ rfl
        have j5 := kk 5 _ rfl
        have j6 := kk 6 _ rfl
        have j7 := kk 7 _ rfl
        simp only [Nat.add_zero] at j0
        have xb6 : ∀ j, W6.cell? ⟨bx, j, none⟩ = (#[.int .i64 x.f0, .int .i64 x.f1, .int .i64 gr, .int .i64 x.f3.f0, .int .i64 x.f3.f1, .int .i64 sl, .int .i64 sh, .slice (some ⟨g5, 0, none⟩) (x.f5.length + 1) c5] : Array Value)[j]? := fun j => by simp [World.cell?, hb6]
        have m60 : W6.cell? ⟨bm, 0, none⟩ = some (.int .i64 places) := by simp [World.cell?, hbmo]
        have m61 : W6.cell? ⟨bm, 1, none⟩ = some (.slice (some ⟨g, 0, none⟩) l.length cap) := by simp [World.cell?, hbmo]
        have y63 : W6.cell? ⟨bY, 3, none⟩ = some (.int .i64 (q : Int)) := (yE W6 3 hxo).trans rfl
        clear hno1 hno2 hown6 hown5 hap6 kk hrg hb6 ho6 hW6 hx05 hown' hgr hat nb7 nbz n5b HXB HROW HOWB hna hWB hmi2 k0 k1 k2 k3 k4 k5 k6 k7 gz xbE hbase hx0B hxB hj0 hj1 hj2 HJ HC
        go_upto_region 9 with (fail)
        rw [← HOL.out]
        clear j0 j1 j2 j3 j4 j5 j6 j7 xb6 m60 m61 y63 gz6
        have HOP := Lib.hid (show easedX x y = ⟨x.f0, x.f1, gr, x.f3, ⟨sl, sh⟩, ops⟩ by rw [HGR.out, HSL.out, HSH.out, ← HOPS.out]; rfl)
        have hnx := nn_put (q := q) HNO1.out HNO2.out HNO3.out hq (easedX x y) (.slice (some ⟨g5, 0, none⟩) ops.length c5) (by rw [HOP.out]; exact HOW.out) HAP.out
        have hlx : easedB l y = l.set q (easedX x y) := by
          unfold easedB
          rw [dif_pos (by rw [HQI.out]; omega)]
          have e1 : y.path.toNat = q := by rw [HQI.out]; simp
          simp only [e1]
          rw [HX.out]
        have elx : (easedB l y).length = l.length := by rw [hlx, List.length_set]
        rw [← hlx, elx, HOP.out] at hnx
        have HNX0 := Lib.hid hnx
        clear hnx hlx
        obtain ⟨WX, hWX⟩ : ∃ WX, sets8 W6 g (q * 8) ⟨x.f0, x.f1, gr, x.f3, ⟨sl, sh⟩, ops⟩ (.slice (some ⟨g5, 0, none⟩) ops.length c5) = WX := ⟨_, rfl⟩
        have hgm : g ≠ bm := by
          obtain ⟨_, _, c9, hc9⟩ := owns_lt HN1.out.own (g := g) rfl
          exact block_ne_of_type hc9 hbm (by decide)
        have hgo : W0.heap.size ≤ g := ((owns_lt HN1.out.own (g := g) rfl).1)
        have hmX : WX.heap[bm]? = some (.cells #[.int .i64 places, .slice (some ⟨g, 0, none⟩) l.length cap] 24 (0, 0)) := by rw [← hWX, sets8_other (Ne.symm hgm)]; exact hbmo
        have hx0X : Ext W0 WX := hWX ▸ sets8_ext hxo hgo
        show Code.wp _ _ _ _ (sets8 W6 g (q * 8) ⟨x.f0, x.f1, gr, x.f3, ⟨sl, sh⟩, ops⟩ (.slice (some ⟨g5, 0, none⟩) ops.length c5))
        rw [hWX] at HNX0 ⊢
        obtain ⟨lX, hlX⟩ : ∃ lX, easedB l y = lX := ⟨_, rfl⟩
        obtain ⟨VX, hVX⟩ : ∃ VX : Nat → Value, (fun j => if j = q then .slice (some ⟨g5, 0, none⟩) ops.length c5 else V j) = VX := ⟨_, rfl⟩
        rw [hVX, hlX] at HNX0
        have hlXl : lX.length = l.length := by rw [← hlX]; exact elx
        rw [← hlXl] at HNX0 hmX
        have HNX := HNX0
        have HLX := Lib.hid hlX
        have hlX9 : lX.length ≤ 9 := by omega
        clear hlX hVX HNX0 HNO1 HNO2 HNO3 HOW HAP HOP HOPS hWX hbmo hxo elx hlXl hgo hgm
        obtain ⟨i0, hi, hz0, hz1, hz2⟩ := info_parts L.info34
        obtain ⟨WA, hWA⟩ : ∃ WA, WX.alloc (.cells #[.int .i64 y.more.f0, .int .i64 y.more.f1, .int .i64 y.more.f2, .int .i64 y.more.f3.f0, .int .i64 y.more.f3.f1, .int .i64 y.more.f4.f0, .int .i64 y.more.f4.f1, .slice Am y.more.f5.length cm] 34) = WA := ⟨_, rfl⟩
        have hxA : Ext WX WA := hWA ▸ (Ext.refl _).alloc _
        have hna : WA.heap[WX.heap.size]? = some (.cells #[.int .i64 y.more.f0, .int .i64 y.more.f1, .int .i64 y.more.f2, .int .i64 y.more.f3.f0, .int .i64 y.more.f3.f1, .int .i64 y.more.f4.f0, .int .i64 y.more.f4.f1, .slice Am y.more.f5.length cm] 34 (0, 0)) := by rw [← hWA]; exact heap_alloc_new _ _
        have hown := owns_pw HNX.out.own hxA
        have hbmX : bm < WX.heap.size := (Array.getElem?_eq_some_iff.1 hmX).1
        have hmA : WA.heap[bm]? = some (.cells #[.int .i64 places, .slice (some ⟨g, 0, none⟩) lX.length cap] 24 (0, 0)) := (hxA.block bm hbmX).trans hmX
        have hx0A : Ext W0 WA := hx0X.trans hxA
        have hb10 : ∀ w10, WA.grownBy w10 (Value.slice (some ⟨g, 0, none⟩) lX.length cap).ownBlock → w10.heap[bm]? = some (.cells #[.int .i64 places, .slice (some ⟨g, 0, none⟩) lX.length cap] 24 (0, 0)) := fun w10 hg =>
          (hg.block bm (Array.getElem?_eq_some_iff.1 hmA).1 (fun e => by
            obtain ⟨_, _, c9, hc9⟩ := owns_lt hown e.symm
            exact block_ne_of_type hc9 hmA (by decide) rfl)).trans hmA
        have hbase : W0.heap.size ≤ WA.heap.size := hx0A.size
        have mEX : ∀ W9 j, Ext WX W9 → W9.cell? ⟨bm, j, none⟩ = (#[.int .i64 places, .slice (some ⟨g, 0, none⟩) lX.length cap] : Array Value)[j]? := fun W9 j h => by rw [h.cell (by simp; omega)]; simp [World.cell?, hmX]
        have HOWN := Lib.hid hown
        have HI := Lib.hid hi
        have HB10 := Lib.hid hb10
        have HMA := Lib.hid hmA
        clear hown hi hb10 hmA
        have hcap : lX.length + 1 ≤ maxLen := Nat.le_trans (show lX.length + 1 ≤ 10 by omega) (by decide)
        have HC := Lib.hid hcap
        clear hcap
        have yX : ∀ W9 j, Ext WX W9 → W9.cell? ⟨bY, j, none⟩ = (#[.int .i64 y.later, .int .i64 y.pace, .int .i64 y.load, .int .i64 (q : Int), .int .i64 y.grade, .int .i64 y.snow, .int .i64 y.opens, .int .i64 y.more.f0, .int .i64 y.more.f1, .int .i64 y.more.f2, .int .i64 y.more.f3.f0, .int .i64 y.more.f3.f1, .int .i64 y.more.f4.f0, .int .i64 y.more.f4.f1, .slice Am y.more.f5.length cm] : Array Value)[j]? := fun W9 j h => yE W9 j (hx0X.trans h)
        have HYE := Lib.hid yE
        clear yE hc
        go_wp2_with (at_builtin; refine wpList_append_own _ rfl _ _ 22 rfl W0.heap.size 34 i0 (.agg #[.int .i64 0, .int .i64 0, .int .i64 0, .int .i64 0, .int .i64 0, .int .i64 0, .int .i64 0, .slice none 0 0]) 8 80 Try.underlying22 HI.out hz0 hz1 hz2 rfl (by decide) (.slice (some ⟨g, 0, none⟩) lX.length cap) lX.length (pcells VX 0 lX) rfl HOWN.out ⟨WX.heap.size, 0, none⟩ 1 1 [.int .i64 y.more.f0, .int .i64 y.more.f1, .int .i64 y.more.f2, .int .i64 y.more.f3.f0, .int .i64 y.more.f3.f1, .int .i64 y.more.f4.f0, .int .i64 y.more.f4.f1, .slice Am y.more.f5.length cm] rfl rfl (World.news_of_block hna) (by simp [Value.oneCell']) HC.out (by omega) hbase ?_; intro v' w10 hown' hgr hnil; clear hnil; have n10 := HB10.out _ hgr; obtain ⟨g', cap', rfl, hg1, hg2⟩ := hown'.form (by omega); have nc0 : w10.cell? ⟨bm, 0, none⟩ = some (.int .i64 places) := (by simp [World.cell?, n10]); have nc10 : w10.cell? ⟨bm, 1, none⟩ = some (.slice (some ⟨g, 0, none⟩) lX.length cap) := (by simp [World.cell?, n10]); have nz10 : ∀ j, w10.frozen? ⟨bm, j, none⟩ = false := (by intro j; simp [World.frozen?, n10]))
        have hown := HOWN.out
        have hgne : g' ≠ bm := by
          obtain ⟨_, _, c9, hc9⟩ := owns_lt hown' (g := g') rfl
          exact block_ne_of_type hc9 n10 (by decide)
        have hx010 : Ext W0 w10 := ⟨hgr.os.trans hx0A.os, hgr.tape.trans hx0A.tape, hgr.output.trans hx0A.output, Nat.le_trans hx0A.size hgr.size, fun k hk => (hgr.block k (Nat.lt_of_lt_of_le hk hx0A.size) (fun e => by have := (owns_lt hown e.symm).1; omega)).trans (hx0A.block k hk)⟩
        obtain ⟨W11, hW11⟩ : ∃ W11, w10.setCell ⟨bm, 1, none⟩ (.slice (some ⟨g', 0, none⟩) (lX.length + 1) cap') = W11 := ⟨_, rfl⟩
        rw [hW11]
        have hx011 : Ext W0 W11 := hW11 ▸ hx010.setCell (p := ⟨bm, 1, none⟩) hbm0 _
        have hm11 : W11.heap[bm]? = some (.cells #[.int .i64 places, .slice (some ⟨g', 0, none⟩) (lX.length + 1) cap'] 24 (0, 0)) := by rw [← hW11]; simp [World.setCell, Array.getElem?_modify, n10]
        have hin11' : ∀ j x, lX[j]? = some x → W11.ownsRow W0.heap.size 26 2 (VX j) x.f5.length (scells x.f5) := by
          intro j x9 hj
          have h1 := owns_pw (HNX.out.inn j x9 hj) hxA
          have h2 : w10.ownsRow W0.heap.size 26 2 (VX j) x9.f5.length (scells x9.f5) := h1.kept hgr (by
            rcases hob : (VX j).ownBlock with _ | k9
            · exact .inl rfl
            · refine .inr (fun e => ?_)
              obtain ⟨_, _, c9, hc9⟩ := owns_lt h1 hob
              obtain ⟨_, _, d9, hd9⟩ := owns_lt hown e.symm
              exact block_ne_of_type hc9 hd9 (by decide) rfl)
          have h3 := owns_store h2 (g := bm) (fun e => by
            obtain ⟨_, _, c9, hc9⟩ := owns_lt h2 e
            exact block_ne_of_type hc9 n10 (by decide) rfl) 1 (.slice (some ⟨g', 0, none⟩) (lX.length + 1) cap')
          rw [hW11] at h3
          exact h3
        have hin11 : ∀ j x, lX[j]? = some x → ∃ A c, VX j = .slice A x.f5.length c ∧ Spns W11 A (x.f5.map spnOf) := by
          intro j x9 hj
          have h3 := hin11' j x9 hj
          obtain ⟨A9, c9, hV9, _, _⟩ := owns_slice h3
          rw [hV9] at h3
          exact ⟨A9, c9, hV9, spns_of_owns h3⟩
        have hown11 := owns_store hown' (g := bm) (fun e => hgne (by simpa [Value.ownBlock] using e)) 1 (.slice (some ⟨g', 0, none⟩) (lX.length + 1) cap')
        rw [hW11] at hown11
        have hsp : Spns W11 Am (y.more.f5.map spnOf) := Sl.ext (spns_of HM.out) (hx0.trans hx011)
        obtain ⟨⟨B1, C1, hp1⟩, ⟨B2, C2, hp2⟩⟩ := pths_push hown11 hin11 hsp
        have HIN11 := Lib.hid hin11'
        have HOWN11 := Lib.hid hown11
        have hch := ref01_Check (ntOf places (lX ++ [y.more])) _ B1 C1 cap' W11 hp1
        simp only [vNt, ntOf, List.length_map, List.length_append, List.length_singleton] at hch
        have HCH := Lib.hid hch
        clear hch hp1 hp2 hsp hown11 hin11 hin11' hown hW11 hx010 hgne nz10 nc10 nc0 n10 hg2 hgr hown' HB10 HMA HOWN hWA hxA hna mEX yX hx0A hx0X hmX HNX hz0 hz1 hz2 HI hbase hbmX
        refine HCH.out.mono ?_
        clear HCH
        rintro e w12 ⟨rfl, hx12'⟩
        have hx012 : Ext W0 w12 := hx011.trans hx12'
        have hm12 : w12.heap[bm]? = some (.cells #[.int .i64 places, .slice (some ⟨g', 0, none⟩) (lX.length + 1) cap'] 24 (0, 0)) := (hx12'.block bm (Array.getElem?_eq_some_iff.1 hm11).1).trans hm11
        have hsame12 : ∀ (b : Nat) (c : Array Value) (t : TypeId) (f : Nat × Nat), W11.heap[b]? = some (.cells c t f) → t ≠ 24 → t ≠ 28 → w12.heap[b]? = some (.cells c t f) := fun b9 c9 t9 f9 h9 _ _ => (hx12'.block b9 (Array.getElem?_eq_some_iff.1 h9).1).trans h9
        have HSA12 := Lib.hid hsame12
        clear hsame12 hx12' hm11 hx011
        by_cases hv : netOk ⟨places, (lX ++ [y.more]).map pthOf⟩ = true
        · rw [hv, show okErr true 10 = 0 from rfl]
          have hlF : Hid (easedL places l y = lX ++ [y.more]) := Lib.hid (by unfold easedL; rw [HLX.out]; exact if_pos hv)
          have HOK12 := Lib.hid hv
          clear hv
          have hpF : w12.heap[bp]? = some (.cells #[.int .i64 p.grade, .int .i64 p.load, .int .i64 p.pace.lo, .int .i64 p.pace.hi] 28 (0, 0)) := (hx012.block bp tP).trans hbp
          have hrF : w12.heap[bR]? = some (.cells #[.int .i64 0, .slice none 0 0] 24 (0, 0)) := (hx012.block bR tR).trans hbr
          have hqF : w12.heap[bQ]? = some (.cells #[.int .i64 0, .int .i64 0, .int .i64 0, .int .i64 0] 28 (0, 0)) := (hx012.block bQ b5).trans hbq
          have p0 : w12.cell? ⟨bp, 0, none⟩ = some (.int .i64 p.grade) := by simp [World.cell?, hpF]
          have p1 : w12.cell? ⟨bp, 1, none⟩ = some (.int .i64 p.load) := by simp [World.cell?, hpF]
          have p2 : w12.cell? ⟨bp, 2, none⟩ = some (.int .i64 p.pace.lo) := by simp [World.cell?, hpF]
          have p3 : w12.cell? ⟨bp, 3, none⟩ = some (.int .i64 p.pace.hi) := by simp [World.cell?, hpF]
          have pz : ∀ j, w12.frozen? ⟨bp, j, none⟩ = false := by intro j; simp [World.frozen?, hpF]
          have y1c : w12.cell? ⟨bY, 1, none⟩ = some (.int .i64 y.pace) := (HYE.out w12 1 hx012).trans rfl
          have y2c : w12.cell? ⟨bY, 2, none⟩ = some (.int .i64 y.load) := (HYE.out w12 2 hx012).trans rfl
          have m0 : w12.cell? ⟨bm, 0, none⟩ = some (.int .i64 places) := by simp [World.cell?, hm12]
          have m1 : w12.cell? ⟨bm, 1, none⟩ = some (.slice (some ⟨g', 0, none⟩) (lX.length + 1) cap') := by simp [World.cell?, hm12]
          have r0 : w12.cell? ⟨bR, 0, none⟩ = some (.int .i64 0) := by simp [World.cell?, hrF]
          have r1 : w12.cell? ⟨bR, 1, none⟩ = some (.slice none 0 0) := by simp [World.cell?, hrF]
          have rz : ∀ j, w12.frozen? ⟨bR, j, none⟩ = false := by intro j; simp [World.frozen?, hrF]
          have q0 : w12.cell? ⟨bQ, 0, none⟩ = some (.int .i64 0) := by simp [World.cell?, hqF]
          have q1 : w12.cell? ⟨bQ, 1, none⟩ = some (.int .i64 0) := by simp [World.cell?, hqF]
          have q2 : w12.cell? ⟨bQ, 2, none⟩ = some (.int .i64 0) := by simp [World.cell?, hqF]
          have q3 : w12.cell? ⟨bQ, 3, none⟩ = some (.int .i64 0) := by simp [World.cell?, hqF]
          have qz : ∀ j, w12.frozen? ⟨bQ, j, none⟩ = false := by intro j; simp [World.frozen?, hqF]
          obtain ⟨pk1, ⟨pk2, pk3, pk4⟩, ⟨pk5, pk6⟩⟩ := partyOk_iff.1 HPK.out
          go_upto_region 14 with (fail)
          obtain ⟨a1, ha1⟩ : ∃ a1 : Int, a1 = max 0 (p.load - y.load) := ⟨_, rfl⟩
          obtain ⟨a2, ha2⟩ : ∃ a2 : Int, a2 = max 50 (p.pace.lo - y.pace) := ⟨_, rfl⟩
          obtain ⟨a3, ha3⟩ : ∃ a3 : Int, a3 = max 50 (p.pace.hi - y.pace) := ⟨_, rfl⟩
          rw [show (if y.load < p.load then p.load - y.load else 0) = a1 by rw [ha1]; split <;> omega, show (if 50 < p.pace.lo - y.pace then p.pace.lo - y.pace else 50) = a2 by rw [ha2]; split <;> omega, show (if 50 < p.pace.hi - y.pace then p.pace.hi - y.pace else 50) = a3 by rw [ha3]; split <;> omega]
          obtain ⟨WG, hWG⟩ : ∃ WG, ((w12.setCell ⟨bp, 1, none⟩ (.int .i64 a1)).setCell ⟨bp, 2, none⟩ (.int .i64 a2)).setCell ⟨bp, 3, none⟩ (.int .i64 a3) = WG := ⟨_, rfl⟩
          rw [hWG]
          have hoG : ∀ k, k ≠ bp → WG.heap[k]? = w12.heap[k]? := fun k hk => by rw [← hWG, heap_set_other (by exact hk), heap_set_other (by exact hk), heap_set_other (by exact hk)]
          have hpG : WG.heap[bp]? = some (.cells #[.int .i64 p.grade, .int .i64 a1, .int .i64 a2, .int .i64 a3] 28 (0, 0)) := by rw [← hWG]; simp [World.setCell, Array.getElem?_modify, hpF]
          have hxG : Ext w WG := hWG ▸ ((((hx0.trans hx012).setCell (p := ⟨bp, 1, none⟩) lP _).setCell (p := ⟨bp, 2, none⟩) lP _).setCell (p := ⟨bp, 3, none⟩) lP _)
          have hmG : WG.heap[bm]? = some (.cells #[.int .i64 places, .slice (some ⟨g', 0, none⟩) (lX.length + 1) cap'] 24 (0, 0)) := (hoG bm n3).trans hm12
          have hrG : WG.heap[bR]? = some (.cells #[.int .i64 0, .slice none 0 0] 24 (0, 0)) := (hoG bR n4).trans hrF
          have hqG : WG.heap[bQ]? = some (.cells #[.int .i64 0, .int .i64 0, .int .i64 0, .int .i64 0] 28 (0, 0)) := (hoG bQ n5).trans hqF
          have HA1 := Lib.hid ha1
          have HA2 := Lib.hid ha2
          have HA3 := Lib.hid ha3
          have HOG := Lib.hid hoG
          clear ha1 ha2 ha3 hoG hWG p0 p1 p2 p3 pz y1c y2c m0 m1 r0 r1 rz q0 q1 q2 q3 qz hpF hrF hqF pk1 pk2 pk3 pk4 pk5 pk6
          have p0 : WG.cell? ⟨bp, 0, none⟩ = some (.int .i64 p.grade) := by simp [World.cell?, hpG]
          have p1 : WG.cell? ⟨bp, 1, none⟩ = some (.int .i64 a1) := by simp [World.cell?, hpG]
          have p2 : WG.cell? ⟨bp, 2, none⟩ = some (.int .i64 a2) := by simp [World.cell?, hpG]
          have p3 : WG.cell? ⟨bp, 3, none⟩ = some (.int .i64 a3) := by simp [World.cell?, hpG]
          have m0 : WG.cell? ⟨bm, 0, none⟩ = some (.int .i64 places) := by simp [World.cell?, hmG]
          have m1 : WG.cell? ⟨bm, 1, none⟩ = some (.slice (some ⟨g', 0, none⟩) (lX.length + 1) cap') := by simp [World.cell?, hmG]
          have r0 : WG.cell? ⟨bR, 0, none⟩ = some (.int .i64 0) := by simp [World.cell?, hrG]
          have r1 : WG.cell? ⟨bR, 1, none⟩ = some (.slice none 0 0) := by simp [World.cell?, hrG]
          have rz : ∀ j, WG.frozen? ⟨bR, j, none⟩ = false := by intro j; simp [World.frozen?, hrG]
          have q0 : WG.cell? ⟨bQ, 0, none⟩ = some (.int .i64 0) := by simp [World.cell?, hqG]
          have q1 : WG.cell? ⟨bQ, 1, none⟩ = some (.int .i64 0) := by simp [World.cell?, hqG]
          have q2 : WG.cell? ⟨bQ, 2, none⟩ = some (.int .i64 0) := by simp [World.cell?, hqG]
          have q3 : WG.cell? ⟨bQ, 3, none⟩ = some (.int .i64 0) := by simp [World.cell?, hqG]
          have qz : ∀ j, WG.frozen? ⟨bQ, j, none⟩ = false := by intro j; simp [World.frozen?, hqG]
          have hrF := (HOG.out bR n4).symm.trans hrG
          have hqF := (HOG.out bQ n5).symm.trans hqG
          have hsG : ∀ (b : Nat) (c : Array Value) (t : TypeId) (f : Nat × Nat), W11.heap[b]? = some (.cells c t f) → t ≠ 24 → t ≠ 28 → WG.heap[b]? = some (.cells c t f) ∧ b ≠ bR ∧ b ≠ bQ := fun b9 c9 t9 f9 h9 t1 t2 => by
            have h1 := HSA12.out b9 c9 t9 f9 h9 t1 t2
            have e1 := block_ne_of_type h1 hrF t1
            have e2 := block_ne_of_type h1 hqF t2
            have e3 : b9 ≠ bp := by
              intro e
              have h2 := (HSA12.out b9 c9 t9 f9 h9 t1 t2)
              rw [e] at h2
              exact block_ne_of_type h2 (show w12.heap[bp]? = some (.cells #[.int .i64 p.grade, .int .i64 p.load, .int .i64 p.pace.lo, .int .i64 p.pace.hi] 28 (0, 0)) from (hx012.block bp tP).trans hbp) t2 rfl
            exact ⟨(HOG.out b9 e3).trans h1, e1, e2⟩
          have HSG := Lib.hid hsG
          clear hsG hrF hqF
          go_region
          all_goals
            generalize hWH : World.drew _ = WH
            have edr : ∀ X : World, X.drew.heap = X.heap := fun _ => rfl
            have hrH : WH.heap[bR]? = some (.cells #[.int .i64 places, .slice (some ⟨g', 0, none⟩) (lX.length + 1) cap'] 24 (0, 0)) := by rw [← hWH, edr]; simp [World.setCell, Array.getElem?_modify, hrG, hqG, n6, n7]
            have hqH : WH.heap[bQ]? = some (.cells #[.int .i64 p.grade, .int .i64 a1, .int .i64 a2, .int .i64 a3] 28 (0, 0)) := by rw [← hWH, edr]; simp [World.setCell, Array.getElem?_modify, hrG, hqG, n6, n7]
            have hoH : ∀ k, k ≠ bR → k ≠ bQ → WH.heap[k]? = WG.heap[k]? := fun k h1 h2 => by
              rw [← hWH, edr]
              iterate 6 rw [heap_set_other (by first | exact h1 | exact h2)]
            have hxH : Ext w WH := by
              rw [← hWH]
              refine Ext.drew ?_
              iterate 6 refine Ext.setCell ?_ (by first | exact lR | exact lQ) _
              exact hxG
            have hkH : ∀ (b : Nat) (c : Array Value) (t : TypeId) (f : Nat × Nat), W11.heap[b]? = some (.cells c t f) → t ≠ 24 → t ≠ 28 → WH.heap[b]? = W11.heap[b]? := fun b9 c9 t9 f9 h9 t1 t2 => by
              obtain ⟨h1, h2, h3⟩ := HSG.out b9 c9 t9 f9 h9 t1 t2
              rw [hoH b9 h2 h3, h1, h9]
            have hownH := owns_same HOWN11.out (W := WH) (fun k c f _ hb => hkH k c _ f hb (by decide) (by decide))
            have hinH : ∀ j x, lX[j]? = some x → ∃ A c, VX j = .slice A x.f5.length c ∧ Spns WH A (x.f5.map spnOf) := by
              intro j x9 hj
              have h3 := owns_same (HIN11.out j x9 hj) (W := WH) (fun k c f _ hb => hkH k c _ f hb (by decide) (by decide))
              obtain ⟨A9, c9, hV9, _, _⟩ := owns_slice h3
              rw [hV9] at h3
              exact ⟨A9, c9, hV9, spns_of_owns h3⟩
            have hspH : Spns WH Am (y.more.f5.map spnOf) := Sl.ext (spns_of HM.out) hxH
            obtain ⟨Bf, Cf, hpf⟩ := And.left (pths_push hownH hinH hspH)
            have rc0 : WH.cell? ⟨bR, 0, none⟩ = some (.int .i64 places) := by simp [World.cell?, hrH]
            have rc1 : WH.cell? ⟨bR, 1, none⟩ = some (.slice (some ⟨g', 0, none⟩) (lX.length + 1) cap') := by simp [World.cell?, hrH]
            have qc0 : WH.cell? ⟨bQ, 0, none⟩ = some (.int .i64 p.grade) := by simp [World.cell?, hqH]
            have qc1 : WH.cell? ⟨bQ, 1, none⟩ = some (.int .i64 a1) := by simp [World.cell?, hqH]
            have qc2 : WH.cell? ⟨bQ, 2, none⟩ = some (.int .i64 a2) := by simp [World.cell?, hqH]
            have qc3 : WH.cell? ⟨bQ, 3, none⟩ = some (.int .i64 a3) := by simp [World.cell?, hqH]
            have HPF := Lib.hid hpf
            have HXH := Lib.hid hxH
            clear hWH hrH hqH hoH hxH hkH hownH hinH hspH hpf
            go_wp2
            refine bodyPost_ret (v := .tuple #[.agg #[.int .i64 places, .slice (some ⟨g', 0, none⟩) (lX.length + 1) cap'], .agg #[.int .i64 p.grade, .int .i64 a1, .int .i64 a2, .int .i64 a3]]) (by simp [results, Try.results9, go_sem, rc0, rc1, qc0, qc1, qc2, qc3]) rfl ⟨some ⟨g', 0, none⟩, cap', Bf, Cf, ?_, ?_, HXH.out⟩
            · first
                | (rw [hlF.out, HA1.out, HA2.out, HA3.out]; done)
                | (rw [hlF.out, HA1.out, HA2.out, HA3.out]; simp; done)
            · rw [hlF.out]
              exact HPF.out
        · rw [Bool.not_eq_true] at hv
          rw [hv, show okErr false 10 = 10 from rfl]
          have hlF : Hid (easedL places l y = lX) := Lib.hid (by unfold easedL; rw [HLX.out]; exact if_neg (by show ¬ netOk ⟨places, (lX ++ [y.more]).map pthOf⟩ = true; rw [hv]; simp))
          have HOK12 := Lib.hid hv
          clear hv
          have hle : lX.length ≤ cap' := by
            rcases HOWN11.out.2 with ⟨h9, _⟩ | ⟨_, _, _, h9, _, _, h8, _⟩
            · cases h9
            · injection h9 with _ _ h9; omega
          have mc0 : w12.cell? ⟨bm, 0, none⟩ = some (.int .i64 places) := by simp [World.cell?, hm12]
          have mc1 : w12.cell? ⟨bm, 1, none⟩ = some (.slice (some ⟨g', 0, none⟩) (lX.length + 1) cap') := by simp [World.cell?, hm12]
          have mz : ∀ j, w12.frozen? ⟨bm, j, none⟩ = false := by intro j; simp [World.frozen?, hm12]
          go_upto_region 12 with (fail)
          obtain ⟨W13, hW13⟩ : ∃ W13, w12.setCell ⟨bm, 1, none⟩ (.slice (some ⟨g', 0, none⟩) lX.length cap') = W13 := ⟨_, rfl⟩
          rw [hW13]
          have hm13 : W13.heap[bm]? = some (.cells #[.int .i64 places, .slice (some ⟨g', 0, none⟩) lX.length cap'] 24 (0, 0)) := by rw [← hW13]; simp [World.setCell, Array.getElem?_modify, hm12]
          have hx013 : Ext W0 W13 := hW13 ▸ hx012.setCell (p := ⟨bm, 1, none⟩) hbm0 _
          have hsame13 : ∀ (b : Nat) (c : Array Value) (t : TypeId) (f : Nat × Nat), W11.heap[b]? = some (.cells c t f) → t ≠ 24 → t ≠ 28 → W13.heap[b]? = some (.cells c t f) := fun b9 c9 t9 f9 h9 t1 t2 => by
            have h1 := HSA12.out b9 c9 t9 f9 h9 t1 t2
            rw [← hW13, heap_set_other (by exact block_ne_of_type h1 hm12 t1)]
            exact h1
          have HSA13 := Lib.hid hsame13
          clear hsame13 hW13 mc0 mc1 mz hm12 hx012
          have hpF : W13.heap[bp]? = some (.cells #[.int .i64 p.grade, .int .i64 p.load, .int .i64 p.pace.lo, .int .i64 p.pace.hi] 28 (0, 0)) := (hx013.block bp tP).trans hbp
          have hrF : W13.heap[bR]? = some (.cells #[.int .i64 0, .slice none 0 0] 24 (0, 0)) := (hx013.block bR tR).trans hbr
          have hqF : W13.heap[bQ]? = some (.cells #[.int .i64 0, .int .i64 0, .int .i64 0, .int .i64 0] 28 (0, 0)) := (hx013.block bQ b5).trans hbq
          have p0 : W13.cell? ⟨bp, 0, none⟩ = some (.int .i64 p.grade) := by simp [World.cell?, hpF]
          have p1 : W13.cell? ⟨bp, 1, none⟩ = some (.int .i64 p.load) := by simp [World.cell?, hpF]
          have p2 : W13.cell? ⟨bp, 2, none⟩ = some (.int .i64 p.pace.lo) := by simp [World.cell?, hpF]
          have p3 : W13.cell? ⟨bp, 3, none⟩ = some (.int .i64 p.pace.hi) := by simp [World.cell?, hpF]
          have pz : ∀ j, W13.frozen? ⟨bp, j, none⟩ = false := by intro j; simp [World.frozen?, hpF]
          have y1c : W13.cell? ⟨bY, 1, none⟩ = some (.int .i64 y.pace) := (HYE.out W13 1 hx013).trans rfl
          have y2c : W13.cell? ⟨bY, 2, none⟩ = some (.int .i64 y.load) := (HYE.out W13 2 hx013).trans rfl
          have m0 : W13.cell? ⟨bm, 0, none⟩ = some (.int .i64 places) := by simp [World.cell?, hm13]
          have m1 : W13.cell? ⟨bm, 1, none⟩ = some (.slice (some ⟨g', 0, none⟩) lX.length cap') := by simp [World.cell?, hm13]
          have r0 : W13.cell? ⟨bR, 0, none⟩ = some (.int .i64 0) := by simp [World.cell?, hrF]
          have r1 : W13.cell? ⟨bR, 1, none⟩ = some (.slice none 0 0) := by simp [World.cell?, hrF]
          have rz : ∀ j, W13.frozen? ⟨bR, j, none⟩ = false := by intro j; simp [World.frozen?, hrF]
          have q0 : W13.cell? ⟨bQ, 0, none⟩ = some (.int .i64 0) := by simp [World.cell?, hqF]
          have q1 : W13.cell? ⟨bQ, 1, none⟩ = some (.int .i64 0) := by simp [World.cell?, hqF]
          have q2 : W13.cell? ⟨bQ, 2, none⟩ = some (.int .i64 0) := by simp [World.cell?, hqF]
          have q3 : W13.cell? ⟨bQ, 3, none⟩ = some (.int .i64 0) := by simp [World.cell?, hqF]
          have qz : ∀ j, W13.frozen? ⟨bQ, j, none⟩ = false := by intro j; simp [World.frozen?, hqF]
          obtain ⟨pk1, ⟨pk2, pk3, pk4⟩, ⟨pk5, pk6⟩⟩ := partyOk_iff.1 HPK.out
          go_upto_region 14 with (fail)
          obtain ⟨a1, ha1⟩ : ∃ a1 : Int, a1 = max 0 (p.load - y.load) := ⟨_, rfl⟩
          obtain ⟨a2, ha2⟩ : ∃ a2 : Int, a2 = max 50 (p.pace.lo - y.pace) := ⟨_, rfl⟩
          obtain ⟨a3, ha3⟩ : ∃ a3 : Int, a3 = max 50 (p.pace.hi - y.pace) := ⟨_, rfl⟩
          rw [show (if y.load < p.load then p.load - y.load else 0) = a1 by rw [ha1]; split <;> omega, show (if 50 < p.pace.lo - y.pace then p.pace.lo - y.pace else 50) = a2 by rw [ha2]; split <;> omega, show (if 50 < p.pace.hi - y.pace then p.pace.hi - y.pace else 50) = a3 by rw [ha3]; split <;> omega]
          obtain ⟨WG, hWG⟩ : ∃ WG, ((W13.setCell ⟨bp, 1, none⟩ (.int .i64 a1)).setCell ⟨bp, 2, none⟩ (.int .i64 a2)).setCell ⟨bp, 3, none⟩ (.int .i64 a3) = WG := ⟨_, rfl⟩
          rw [hWG]
          have hoG : ∀ k, k ≠ bp → WG.heap[k]? = W13.heap[k]? := fun k hk => by rw [← hWG, heap_set_other (by exact hk), heap_set_other (by exact hk), heap_set_other (by exact hk)]
          have hpG : WG.heap[bp]? = some (.cells #[.int .i64 p.grade, .int .i64 a1, .int .i64 a2, .int .i64 a3] 28 (0, 0)) := by rw [← hWG]; simp [World.setCell, Array.getElem?_modify, hpF]
          have hxG : Ext w WG := hWG ▸ ((((hx0.trans hx013).setCell (p := ⟨bp, 1, none⟩) lP _).setCell (p := ⟨bp, 2, none⟩) lP _).setCell (p := ⟨bp, 3, none⟩) lP _)
          have hmG : WG.heap[bm]? = some (.cells #[.int .i64 places, .slice (some ⟨g', 0, none⟩) lX.length cap'] 24 (0, 0)) := (hoG bm n3).trans hm13
          have hrG : WG.heap[bR]? = some (.cells #[.int .i64 0, .slice none 0 0] 24 (0, 0)) := (hoG bR n4).trans hrF
          have hqG : WG.heap[bQ]? = some (.cells #[.int .i64 0, .int .i64 0, .int .i64 0, .int .i64 0] 28 (0, 0)) := (hoG bQ n5).trans hqF
          have HA1 := Lib.hid ha1
          have HA2 := Lib.hid ha2
          have HA3 := Lib.hid ha3
          have HOG := Lib.hid hoG
          clear ha1 ha2 ha3 hoG hWG p0 p1 p2 p3 pz y1c y2c m0 m1 r0 r1 rz q0 q1 q2 q3 qz hpF hrF hqF pk1 pk2 pk3 pk4 pk5 pk6
          have p0 : WG.cell? ⟨bp, 0, none⟩ = some (.int .i64 p.grade) := by simp [World.cell?, hpG]
          have p1 : WG.cell? ⟨bp, 1, none⟩ = some (.int .i64 a1) := by simp [World.cell?, hpG]
          have p2 : WG.cell? ⟨bp, 2, none⟩ = some (.int .i64 a2) := by simp [World.cell?, hpG]
          have p3 : WG.cell? ⟨bp, 3, none⟩ = some (.int .i64 a3) := by simp [World.cell?, hpG]
          have m0 : WG.cell? ⟨bm, 0, none⟩ = some (.int .i64 places) := by simp [World.cell?, hmG]
          have m1 : WG.cell? ⟨bm, 1, none⟩ = some (.slice (some ⟨g', 0, none⟩) lX.length cap') := by simp [World.cell?, hmG]
          have r0 : WG.cell? ⟨bR, 0, none⟩ = some (.int .i64 0) := by simp [World.cell?, hrG]
          have r1 : WG.cell? ⟨bR, 1, none⟩ = some (.slice none 0 0) := by simp [World.cell?, hrG]
          have rz : ∀ j, WG.frozen? ⟨bR, j, none⟩ = false := by intro j; simp [World.frozen?, hrG]
          have q0 : WG.cell? ⟨bQ, 0, none⟩ = some (.int .i64 0) := by simp [World.cell?, hqG]
          have q1 : WG.cell? ⟨bQ, 1, none⟩ = some (.int .i64 0) := by simp [World.cell?, hqG]
          have q2 : WG.cell? ⟨bQ, 2, none⟩ = some (.int .i64 0) := by simp [World.cell?, hqG]
          have q3 : WG.cell? ⟨bQ, 3, none⟩ = some (.int .i64 0) := by simp [World.cell?, hqG]
          have qz : ∀ j, WG.frozen? ⟨bQ, j, none⟩ = false := by intro j; simp [World.frozen?, hqG]
          have hrF := (HOG.out bR n4).symm.trans hrG
          have hqF := (HOG.out bQ n5).symm.trans hqG
          have hsG : ∀ (b : Nat) (c : Array Value) (t : TypeId) (f : Nat × Nat), W11.heap[b]? = some (.cells c t f) → t ≠ 24 → t ≠ 28 → WG.heap[b]? = some (.cells c t f) ∧ b ≠ bR ∧ b ≠ bQ := fun b9 c9 t9 f9 h9 t1 t2 => by
            have h1 := HSA13.out b9 c9 t9 f9 h9 t1 t2
            have e1 := block_ne_of_type h1 hrF t1
            have e2 := block_ne_of_type h1 hqF t2
            have e3 : b9 ≠ bp := by
              intro e
              have h2 := (HSA13.out b9 c9 t9 f9 h9 t1 t2)
              rw [e] at h2
              exact block_ne_of_type h2 (show W13.heap[bp]? = some (.cells #[.int .i64 p.grade, .int .i64 p.load, .int .i64 p.pace.lo, .int .i64 p.pace.hi] 28 (0, 0)) from (hx013.block bp tP).trans hbp) t2 rfl
            exact ⟨(HOG.out b9 e3).trans h1, e1, e2⟩
          have HSG := Lib.hid hsG
          clear hsG hrF hqF
          go_region
          all_goals
            generalize hWH : World.drew _ = WH
            have edr : ∀ X : World, X.drew.heap = X.heap := fun _ => rfl
            have hrH : WH.heap[bR]? = some (.cells #[.int .i64 places, .slice (some ⟨g', 0, none⟩) lX.length cap'] 24 (0, 0)) := by rw [← hWH, edr]; simp [World.setCell, Array.getElem?_modify, hrG, hqG, n6, n7]
            have hqH : WH.heap[bQ]? = some (.cells #[.int .i64 p.grade, .int .i64 a1, .int .i64 a2, .int .i64 a3] 28 (0, 0)) := by rw [← hWH, edr]; simp [World.setCell, Array.getElem?_modify, hrG, hqG, n6, n7]
            have hoH : ∀ k, k ≠ bR → k ≠ bQ → WH.heap[k]? = WG.heap[k]? := fun k h1 h2 => by
              rw [← hWH, edr]
              iterate 6 rw [heap_set_other (by first | exact h1 | exact h2)]
            have hxH : Ext w WH := by
              rw [← hWH]
              refine Ext.drew ?_
              iterate 6 refine Ext.setCell ?_ (by first | exact lR | exact lQ) _
              exact hxG
            have hkH : ∀ (b : Nat) (c : Array Value) (t : TypeId) (f : Nat × Nat), W11.heap[b]? = some (.cells c t f) → t ≠ 24 → t ≠ 28 → WH.heap[b]? = W11.heap[b]? := fun b9 c9 t9 f9 h9 t1 t2 => by
              obtain ⟨h1, h2, h3⟩ := HSG.out b9 c9 t9 f9 h9 t1 t2
              rw [hoH b9 h2 h3, h1, h9]
            have hownH := owns_same HOWN11.out (W := WH) (fun k c f _ hb => hkH k c _ f hb (by decide) (by decide))
            have hinH : ∀ j x, lX[j]? = some x → ∃ A c, VX j = .slice A x.f5.length c ∧ Spns WH A (x.f5.map spnOf) := by
              intro j x9 hj
              have h3 := owns_same (HIN11.out j x9 hj) (W := WH) (fun k c f _ hb => hkH k c _ f hb (by decide) (by decide))
              obtain ⟨A9, c9, hV9, _, _⟩ := owns_slice h3
              rw [hV9] at h3
              exact ⟨A9, c9, hV9, spns_of_owns h3⟩
            have hspH : Spns WH Am (y.more.f5.map spnOf) := Sl.ext (spns_of HM.out) hxH
            obtain ⟨Bf, Cf, hpf⟩ := And.right (pths_push hownH hinH hspH)
            have rc0 : WH.cell? ⟨bR, 0, none⟩ = some (.int .i64 places) := by simp [World.cell?, hrH]
            have rc1 : WH.cell? ⟨bR, 1, none⟩ = some (.slice (some ⟨g', 0, none⟩) lX.length cap') := by simp [World.cell?, hrH]
            have qc0 : WH.cell? ⟨bQ, 0, none⟩ = some (.int .i64 p.grade) := by simp [World.cell?, hqH]
            have qc1 : WH.cell? ⟨bQ, 1, none⟩ = some (.int .i64 a1) := by simp [World.cell?, hqH]
            have qc2 : WH.cell? ⟨bQ, 2, none⟩ = some (.int .i64 a2) := by simp [World.cell?, hqH]
            have qc3 : WH.cell? ⟨bQ, 3, none⟩ = some (.int .i64 a3) := by simp [World.cell?, hqH]
            have HPF := Lib.hid hpf
            have HXH := Lib.hid hxH
            clear hWH hrH hqH hoH hxH hkH hownH hinH hspH hpf
            go_wp2
            refine bodyPost_ret (v := .tuple #[.agg #[.int .i64 places, .slice (some ⟨g', 0, none⟩) lX.length cap'], .agg #[.int .i64 p.grade, .int .i64 a1, .int .i64 a2, .int .i64 a3]]) (by simp [results, Try.results9, go_sem, rc0, rc1, qc0, qc1, qc2, qc3]) rfl ⟨some ⟨g', 0, none⟩, cap', Bf, Cf, ?_, ?_, HXH.out⟩
            · first
                | (rw [hlF.out, HA1.out, HA2.out, HA3.out]; done)
                | (rw [hlF.out, HA1.out, HA2.out, HA3.out]; simp; done)
            · rw [hlF.out]
              exact HPF.out
      · have HOPS : Hid ((easedX x y).f5 = x.f5) := Lib.hid (by simp only [easedX]; rw [if_neg (fun h => c2 h.2)])
        have hw2 : within y.opens 0 2880 = false := by rw [Bool.eq_false_iff]; intro h; exact c2 (within_iff.1 h)
        have hmi := ref01_IsMinute y.opens W2
        rw [hw2] at hmi
        have HMI := Lib.hid hmi
        clear hmi hw2 c2
        go_wp2_with fail
        refine HMI.out.mono ?_
        rintro e w3 ⟨rfl, rfl⟩
        go_upto_region 9 with (fail)
        have HNO1 := Lib.hid HN2.out.own
        have HNO2 := Lib.hid (fun j x9 (_ : j ≠ q) h9 => HN2.out.inn j x9 h9)
        have HNO3 := Lib.hid (fun i j b h1 (_ : i ≠ q) (_ : j ≠ q) h2 h3 => HN2.out.apart i j b h1 h2 h3)
        have HOW := HOW2
        have HAP := HAP2
        have hxo := hx02'
        have hbmo := hbm2
        have HOP := Lib.hid (show easedX x y = ⟨x.f0, x.f1, gr, x.f3, ⟨sl, sh⟩, x.f5⟩ by rw [HGR.out, HSL.out, HSH.out, ← HOPS.out]; rfl)
        have hnx := nn_put (q := q) HNO1.out HNO2.out HNO3.out hq (easedX x y) (.slice Dq x.f5.length cq) (by rw [HOP.out]; exact HOW.out) HAP.out
        have hlx : easedB l y = l.set q (easedX x y) := by
          unfold easedB
          rw [dif_pos (by rw [HQI.out]; omega)]
          have e1 : y.path.toNat = q := by rw [HQI.out]; simp
          simp only [e1]
          rw [HX.out]
        have elx : (easedB l y).length = l.length := by rw [hlx, List.length_set]
        rw [← hlx, elx, HOP.out] at hnx
        have HNX0 := Lib.hid hnx
        clear hnx hlx
        obtain ⟨WX, hWX⟩ : ∃ WX, sets8 W2 g (q * 8) ⟨x.f0, x.f1, gr, x.f3, ⟨sl, sh⟩, x.f5⟩ (.slice Dq x.f5.length cq) = WX := ⟨_, rfl⟩
        have hgm : g ≠ bm := by
          obtain ⟨_, _, c9, hc9⟩ := owns_lt HN1.out.own (g := g) rfl
          exact block_ne_of_type hc9 hbm (by decide)
        have hgo : W0.heap.size ≤ g := ((owns_lt HN1.out.own (g := g) rfl).1)
        have hmX : WX.heap[bm]? = some (.cells #[.int .i64 places, .slice (some ⟨g, 0, none⟩) l.length cap] 24 (0, 0)) := by rw [← hWX, sets8_other (Ne.symm hgm)]; exact hbmo
        have hx0X : Ext W0 WX := hWX ▸ sets8_ext hxo hgo
        show Code.wp _ _ _ _ (sets8 W2 g (q * 8) ⟨x.f0, x.f1, gr, x.f3, ⟨sl, sh⟩, x.f5⟩ (.slice Dq x.f5.length cq))
        rw [hWX] at HNX0 ⊢
        obtain ⟨lX, hlX⟩ : ∃ lX, easedB l y = lX := ⟨_, rfl⟩
        obtain ⟨VX, hVX⟩ : ∃ VX : Nat → Value, (fun j => if j = q then .slice Dq x.f5.length cq else V j) = VX := ⟨_, rfl⟩
        rw [hVX, hlX] at HNX0
        have hlXl : lX.length = l.length := by rw [← hlX]; exact elx
        rw [← hlXl] at HNX0 hmX
        have HNX := HNX0
        have HLX := Lib.hid hlX
        have hlX9 : lX.length ≤ 9 := by omega
        clear hlX hVX HNX0 HNO1 HNO2 HNO3 HOW HAP HOP HOPS hWX hbmo hxo elx hlXl hgo hgm
        obtain ⟨i0, hi, hz0, hz1, hz2⟩ := info_parts L.info34
        obtain ⟨WA, hWA⟩ : ∃ WA, WX.alloc (.cells #[.int .i64 y.more.f0, .int .i64 y.more.f1, .int .i64 y.more.f2, .int .i64 y.more.f3.f0, .int .i64 y.more.f3.f1, .int .i64 y.more.f4.f0, .int .i64 y.more.f4.f1, .slice Am y.more.f5.length cm] 34) = WA := ⟨_, rfl⟩
        have hxA : Ext WX WA := hWA ▸ (Ext.refl _).alloc _
        have hna : WA.heap[WX.heap.size]? = some (.cells #[.int .i64 y.more.f0, .int .i64 y.more.f1, .int .i64 y.more.f2, .int .i64 y.more.f3.f0, .int .i64 y.more.f3.f1, .int .i64 y.more.f4.f0, .int .i64 y.more.f4.f1, .slice Am y.more.f5.length cm] 34 (0, 0)) := by rw [← hWA]; exact heap_alloc_new _ _
        have hown := owns_pw HNX.out.own hxA
        have hbmX : bm < WX.heap.size := (Array.getElem?_eq_some_iff.1 hmX).1
        have hmA : WA.heap[bm]? = some (.cells #[.int .i64 places, .slice (some ⟨g, 0, none⟩) lX.length cap] 24 (0, 0)) := (hxA.block bm hbmX).trans hmX
        have hx0A : Ext W0 WA := hx0X.trans hxA
        have hb10 : ∀ w10, WA.grownBy w10 (Value.slice (some ⟨g, 0, none⟩) lX.length cap).ownBlock → w10.heap[bm]? = some (.cells #[.int .i64 places, .slice (some ⟨g, 0, none⟩) lX.length cap] 24 (0, 0)) := fun w10 hg =>
          (hg.block bm (Array.getElem?_eq_some_iff.1 hmA).1 (fun e => by
            obtain ⟨_, _, c9, hc9⟩ := owns_lt hown e.symm
            exact block_ne_of_type hc9 hmA (by decide) rfl)).trans hmA
        have hbase : W0.heap.size ≤ WA.heap.size := hx0A.size
        have mEX : ∀ W9 j, Ext WX W9 → W9.cell? ⟨bm, j, none⟩ = (#[.int .i64 places, .slice (some ⟨g, 0, none⟩) lX.length cap] : Array Value)[j]? := fun W9 j h => by rw [h.cell (by simp; omega)]; simp [World.cell?, hmX]
        have HOWN := Lib.hid hown
        have HI := Lib.hid hi
        have HB10 := Lib.hid hb10
        have HMA := Lib.hid hmA
        clear hown hi hb10 hmA
        have hcap : lX.length + 1 ≤ maxLen := Nat.le_trans (show lX.length + 1 ≤ 10 by omega) (by decide)
        have HC := Lib.hid hcap
        clear hcap
        have yX : ∀ W9 j, Ext WX W9 → W9.cell? ⟨bY, j, none⟩ = (#[.int .i64 y.later, .int .i64 y.pace, .int .i64 y.load, .int .i64 (q : Int), .int .i64 y.grade, .int .i64 y.snow, .int .i64 y.opens, .int .i64 y.more.f0, .int .i64 y.more.f1, .int .i64 y.more.f2, .int .i64 y.more.f3.f0, .int .i64 y.more.f3.f1, .int .i64 y.more.f4.f0, .int .i64 y.more.f4.f1, .slice Am y.more.f5.length cm] : Array Value)[j]? := fun W9 j h => yE W9 j (hx0X.trans h)
        have HYE := Lib.hid yE
        clear yE hc
        go_wp2_with (at_builtin; refine wpList_append_own _ rfl _ _ 22 rfl W0.heap.size 34 i0 (.agg #[.int .i64 0, .int .i64 0, .int .i64 0, .int .i64 0, .int .i64 0, .int .i64 0, .int .i64 0, .slice none 0 0]) 8 80 Try.underlying22 HI.out hz0 hz1 hz2 rfl (by decide) (.slice (some ⟨g, 0, none⟩) lX.length cap) lX.length (pcells VX 0 lX) rfl HOWN.out ⟨WX.heap.size, 0, none⟩ 1 1 [.int .i64 y.more.f0, .int .i64 y.more.f1, .int .i64 y.more.f2, .int .i64 y.more.f3.f0, .int .i64 y.more.f3.f1, .int .i64 y.more.f4.f0, .int .i64 y.more.f4.f1, .slice Am y.more.f5.length cm] rfl rfl (World.news_of_block hna) (by simp [Value.oneCell']) HC.out (by omega) hbase ?_; intro v' w10 hown' hgr hnil; clear hnil; have n10 := HB10.out _ hgr; obtain ⟨g', cap', rfl, hg1, hg2⟩ := hown'.form (by omega); have nc0 : w10.cell? ⟨bm, 0, none⟩ = some (.int .i64 places) := (by simp [World.cell?, n10]); have nc10 : w10.cell? ⟨bm, 1, none⟩ = some (.slice (some ⟨g, 0, none⟩) lX.length cap) := (by simp [World.cell?, n10]); have nz10 : ∀ j, w10.frozen? ⟨bm, j, none⟩ = false := (by intro j; simp [World.frozen?, n10]))
        have hown := HOWN.out
        have hgne : g' ≠ bm := by
          obtain ⟨_, _, c9, hc9⟩ := owns_lt hown' (g := g') rfl
          exact block_ne_of_type hc9 n10 (by decide)
        have hx010 : Ext W0 w10 := ⟨hgr.os.trans hx0A.os, hgr.tape.trans hx0A.tape, hgr.output.trans hx0A.output, Nat.le_trans hx0A.size hgr.size, fun k hk => (hgr.block k (Nat.lt_of_lt_of_le hk hx0A.size) (fun e => by have := (owns_lt hown e.symm).1; omega)).trans (hx0A.block k hk)⟩
        obtain ⟨W11, hW11⟩ : ∃ W11, w10.setCell ⟨bm, 1, none⟩ (.slice (some ⟨g', 0, none⟩) (lX.length + 1) cap') = W11 := ⟨_, rfl⟩
        rw [hW11]
        have hx011 : Ext W0 W11 := hW11 ▸ hx010.setCell (p := ⟨bm, 1, none⟩) hbm0 _
        have hm11 : W11.heap[bm]? = some (.cells #[.int .i64 places, .slice (some ⟨g', 0, none⟩) (lX.length + 1) cap'] 24 (0, 0)) := by rw [← hW11]; simp [World.setCell, Array.getElem?_modify, n10]
        have hin11' : ∀ j x, lX[j]? = some x → W11.ownsRow W0.heap.size 26 2 (VX j) x.f5.length (scells x.f5) := by
          intro j x9 hj
          have h1 := owns_pw (HNX.out.inn j x9 hj) hxA
          have h2 : w10.ownsRow W0.heap.size 26 2 (VX j) x9.f5.length (scells x9.f5) := h1.kept hgr (by
            rcases hob : (VX j).ownBlock with _ | k9
            · exact .inl rfl
            · refine .inr (fun e => ?_)
              obtain ⟨_, _, c9, hc9⟩ := owns_lt h1 hob
              obtain ⟨_, _, d9, hd9⟩ := owns_lt hown e.symm
              exact block_ne_of_type hc9 hd9 (by decide) rfl)
          have h3 := owns_store h2 (g := bm) (fun e => by
            obtain ⟨_, _, c9, hc9⟩ := owns_lt h2 e
            exact block_ne_of_type hc9 n10 (by decide) rfl) 1 (.slice (some ⟨g', 0, none⟩) (lX.length + 1) cap')
          rw [hW11] at h3
          exact h3
        have hin11 : ∀ j x, lX[j]? = some x → ∃ A c, VX j = .slice A x.f5.length c ∧ Spns W11 A (x.f5.map spnOf) := by
          intro j x9 hj
          have h3 := hin11' j x9 hj
          obtain ⟨A9, c9, hV9, _, _⟩ := owns_slice h3
          rw [hV9] at h3
          exact ⟨A9, c9, hV9, spns_of_owns h3⟩
        have hown11 := owns_store hown' (g := bm) (fun e => hgne (by simpa [Value.ownBlock] using e)) 1 (.slice (some ⟨g', 0, none⟩) (lX.length + 1) cap')
        rw [hW11] at hown11
        have hsp : Spns W11 Am (y.more.f5.map spnOf) := Sl.ext (spns_of HM.out) (hx0.trans hx011)
        obtain ⟨⟨B1, C1, hp1⟩, ⟨B2, C2, hp2⟩⟩ := pths_push hown11 hin11 hsp
        have HIN11 := Lib.hid hin11'
        have HOWN11 := Lib.hid hown11
        have hch := ref01_Check (ntOf places (lX ++ [y.more])) _ B1 C1 cap' W11 hp1
        simp only [vNt, ntOf, List.length_map, List.length_append, List.length_singleton] at hch
        have HCH := Lib.hid hch
        clear hch hp1 hp2 hsp hown11 hin11 hin11' hown hW11 hx010 hgne nz10 nc10 nc0 n10 hg2 hgr hown' HB10 HMA HOWN hWA hxA hna mEX yX hx0A hx0X hmX HNX hz0 hz1 hz2 HI hbase hbmX
        refine HCH.out.mono ?_
        clear HCH
        rintro e w12 ⟨rfl, hx12'⟩
        have hx012 : Ext W0 w12 := hx011.trans hx12'
        have hm12 : w12.heap[bm]? = some (.cells #[.int .i64 places, .slice (some ⟨g', 0, none⟩) (lX.length + 1) cap'] 24 (0, 0)) := (hx12'.block bm (Array.getElem?_eq_some_iff.1 hm11).1).trans hm11
        have hsame12 : ∀ (b : Nat) (c : Array Value) (t : TypeId) (f : Nat × Nat), W11.heap[b]? = some (.cells c t f) → t ≠ 24 → t ≠ 28 → w12.heap[b]? = some (.cells c t f) := fun b9 c9 t9 f9 h9 _ _ => (hx12'.block b9 (Array.getElem?_eq_some_iff.1 h9).1).trans h9
        have HSA12 := Lib.hid hsame12
        clear hsame12 hx12' hm11 hx011
        by_cases hv : netOk ⟨places, (lX ++ [y.more]).map pthOf⟩ = true
        · rw [hv, show okErr true 10 = 0 from rfl]
          have hlF : Hid (easedL places l y = lX ++ [y.more]) := Lib.hid (by unfold easedL; rw [HLX.out]; exact if_pos hv)
          have HOK12 := Lib.hid hv
          clear hv
          have hpF : w12.heap[bp]? = some (.cells #[.int .i64 p.grade, .int .i64 p.load, .int .i64 p.pace.lo, .int .i64 p.pace.hi] 28 (0, 0)) := (hx012.block bp tP).trans hbp
          have hrF : w12.heap[bR]? = some (.cells #[.int .i64 0, .slice none 0 0] 24 (0, 0)) := (hx012.block bR tR).trans hbr
          have hqF : w12.heap[bQ]? = some (.cells #[.int .i64 0, .int .i64 0, .int .i64 0, .int .i64 0] 28 (0, 0)) := (hx012.block bQ b5).trans hbq
          have p0 : w12.cell? ⟨bp, 0, none⟩ = some (.int .i64 p.grade) := by simp [World.cell?, hpF]
          have p1 : w12.cell? ⟨bp, 1, none⟩ = some (.int .i64 p.load) := by simp [World.cell?, hpF]
          have p2 : w12.cell? ⟨bp, 2, none⟩ = some (.int .i64 p.pace.lo) := by simp [World.cell?, hpF]
          have p3 : w12.cell? ⟨bp, 3, none⟩ = some (.int .i64 p.pace.hi) := by simp [World.cell?, hpF]
          have pz : ∀ j, w12.frozen? ⟨bp, j, none⟩ = false := by intro j; simp [World.frozen?, hpF]
          have y1c : w12.cell? ⟨bY, 1, none⟩ = some (.int .i64 y.pace) := (HYE.out w12 1 hx012).trans rfl
          have y2c : w12.cell? ⟨bY, 2, none⟩ = some (.int .i64 y.load) := (HYE.out w12 2 hx012).trans rfl
          have m0 : w12.cell? ⟨bm, 0, none⟩ = some (.int .i64 places) := by simp [World.cell?, hm12]
          have m1 : w12.cell? ⟨bm, 1, none⟩ = some (.slice (some ⟨g', 0, none⟩) (lX.length + 1) cap') := by simp [World.cell?, hm12]
          have r0 : w12.cell? ⟨bR, 0, none⟩ = some (.int .i64 0) := by simp [World.cell?, hrF]
          have r1 : w12.cell? ⟨bR, 1, none⟩ = some (.slice none 0 0) := by simp [World.cell?, hrF]
          have rz : ∀ j, w12.frozen? ⟨bR, j, none⟩ = false := by intro j; simp [World.frozen?, hrF]
          have q0 : w12.cell? ⟨bQ, 0, none⟩ = some (.int .i64 0) := by simp [World.cell?, hqF]
          have q1 : w12.cell? ⟨bQ, 1, none⟩ = some (.int .i64 0) := by simp [World.cell?, hqF]
          have q2 : w12.cell? ⟨bQ, 2, none⟩ = some (.int .i64 0) := by simp [World.cell?, hqF]
          have q3 : w12.cell? ⟨bQ, 3, none⟩ = some (.int .i64 0) := by simp [World.cell?, hqF]
          have qz : ∀ j, w12.frozen? ⟨bQ, j, none⟩ = false := by intro j; simp [World.frozen?, hqF]
          obtain ⟨pk1, ⟨pk2, pk3, pk4⟩, ⟨pk5, pk6⟩⟩ := partyOk_iff.1 HPK.out
          go_upto_region 14 with (fail)
          obtain ⟨a1, ha1⟩ : ∃ a1 : Int, a1 = max 0 (p.load - y.load) := ⟨_, rfl⟩
          obtain ⟨a2, ha2⟩ : ∃ a2 : Int, a2 = max 50 (p.pace.lo - y.pace) := ⟨_, rfl⟩
          obtain ⟨a3, ha3⟩ : ∃ a3 : Int, a3 = max 50 (p.pace.hi - y.pace) := ⟨_, rfl⟩
          rw [show (if y.load < p.load then p.load - y.load else 0) = a1 by rw [ha1]; split <;> omega, show (if 50 < p.pace.lo - y.pace then p.pace.lo - y.pace else 50) = a2 by rw [ha2]; split <;> omega, show (if 50 < p.pace.hi - y.pace then p.pace.hi - y.pace else 50) = a3 by rw [ha3]; split <;> omega]
          obtain ⟨WG, hWG⟩ : ∃ WG, ((w12.setCell ⟨bp, 1, none⟩ (.int .i64 a1)).setCell ⟨bp, 2, none⟩ (.int .i64 a2)).setCell ⟨bp, 3, none⟩ (.int .i64 a3) = WG := ⟨_, rfl⟩
          rw [hWG]
          have hoG : ∀ k, k ≠ bp → WG.heap[k]? = w12.heap[k]? := fun k hk => by rw [← hWG, heap_set_other (by exact hk), heap_set_other (by exact hk), heap_set_other (by exact hk)]
          have hpG : WG.heap[bp]? = some (.cells #[.int .i64 p.grade, .int .i64 a1, .int .i64 a2, .int .i64 a3] 28 (0, 0)) := by rw [← hWG]; simp [World.setCell, Array.getElem?_modify, hpF]
          have hxG : Ext w WG := hWG ▸ ((((hx0.trans hx012).setCell (p := ⟨bp, 1, none⟩) lP _).setCell (p := ⟨bp, 2, none⟩) lP _).setCell (p := ⟨bp, 3, none⟩) lP _)
          have hmG : WG.heap[bm]? = some (.cells #[.int .i64 places, .slice (some ⟨g', 0, none⟩) (lX.length + 1) cap'] 24 (0, 0)) := (hoG bm n3).trans hm12
          have hrG : WG.heap[bR]? = some (.cells #[.int .i64 0, .slice none 0 0] 24 (0, 0)) := (hoG bR n4).trans hrF
          have hqG : WG.heap[bQ]? = some (.cells #[.int .i64 0, .int .i64 0, .int .i64 0, .int .i64 0] 28 (0, 0)) := (hoG bQ n5).trans hqF
          have HA1 := Lib.hid ha1
          have HA2 := Lib.hid ha2
          have HA3 := Lib.hid ha3
          have HOG := Lib.hid hoG
          clear ha1 ha2 ha3 hoG hWG p0 p1 p2 p3 pz y1c y2c m0 m1 r0 r1 rz q0 q1 q2 q3 qz hpF hrF hqF pk1 pk2 pk3 pk4 pk5 pk6
          have p0 : WG.cell? ⟨bp, 0, none⟩ = some (.int .i64 p.grade) := by simp [World.cell?, hpG]
          have p1 : WG.cell? ⟨bp, 1, none⟩ = some (.int .i64 a1) := by simp [World.cell?, hpG]
          have p2 : WG.cell? ⟨bp, 2, none⟩ = some (.int .i64 a2) := by simp [World.cell?, hpG]
          have p3 : WG.cell? ⟨bp, 3, none⟩ = some (.int .i64 a3) := by simp [World.cell?, hpG]
          have m0 : WG.cell? ⟨bm, 0, none⟩ = some (.int .i64 places) := by simp [World.cell?, hmG]
          have m1 : WG.cell? ⟨bm, 1, none⟩ = some (.slice (some ⟨g', 0, none⟩) (lX.length + 1) cap') := by simp [World.cell?, hmG]
          have r0 : WG.cell? ⟨bR, 0, none⟩ = some (.int .i64 0) := by simp [World.cell?, hrG]
          have r1 : WG.cell? ⟨bR, 1, none⟩ = some (.slice none 0 0) := by simp [World.cell?, hrG]
          have rz : ∀ j, WG.frozen? ⟨bR, j, none⟩ = false := by intro j; simp [World.frozen?, hrG]
          have q0 : WG.cell? ⟨bQ, 0, none⟩ = some (.int .i64 0) := by simp [World.cell?, hqG]
          have q1 : WG.cell? ⟨bQ, 1, none⟩ = some (.int .i64 0) := by simp [World.cell?, hqG]
          have q2 : WG.cell? ⟨bQ, 2, none⟩ = some (.int .i64 0) := by simp [World.cell?, hqG]
          have q3 : WG.cell? ⟨bQ, 3, none⟩ = some (.int .i64 0) := by simp [World.cell?, hqG]
          have qz : ∀ j, WG.frozen? ⟨bQ, j, none⟩ = false := by intro j; simp [World.frozen?, hqG]
          have hrF := (HOG.out bR n4).symm.trans hrG
          have hqF := (HOG.out bQ n5).symm.trans hqG
          have hsG : ∀ (b : Nat) (c : Array Value) (t : TypeId) (f : Nat × Nat), W11.heap[b]? = some (.cells c t f) → t ≠ 24 → t ≠ 28 → WG.heap[b]? = some (.cells c t f) ∧ b ≠ bR ∧ b ≠ bQ := fun b9 c9 t9 f9 h9 t1 t2 => by
            have h1 := HSA12.out b9 c9 t9 f9 h9 t1 t2
            have e1 := block_ne_of_type h1 hrF t1
            have e2 := block_ne_of_type h1 hqF t2
            have e3 : b9 ≠ bp := by
              intro e
              have h2 := (HSA12.out b9 c9 t9 f9 h9 t1 t2)
              rw [e] at h2
              exact block_ne_of_type h2 (show w12.heap[bp]? = some (.cells #[.int .i64 p.grade, .int .i64 p.load, .int .i64 p.pace.lo, .int .i64 p.pace.hi] 28 (0, 0)) from (hx012.block bp tP).trans hbp) t2 rfl
            exact ⟨(HOG.out b9 e3).trans h1, e1, e2⟩
          have HSG := Lib.hid hsG
          clear hsG hrF hqF
          go_region
          all_goals
            generalize hWH : World.drew _ = WH
            have edr : ∀ X : World, X.drew.heap = X.heap := fun _ => rfl
            have hrH : WH.heap[bR]? = some (.cells #[.int .i64 places, .slice (some ⟨g', 0, none⟩) (lX.length + 1) cap'] 24 (0, 0)) := by rw [← hWH, edr]; simp [World.setCell, Array.getElem?_modify, hrG, hqG, n6, n7]
            have hqH : WH.heap[bQ]? = some (.cells #[.int .i64 p.grade, .int .i64 a1, .int .i64 a2, .int .i64 a3] 28 (0, 0)) := by rw [← hWH, edr]; simp [World.setCell, Array.getElem?_modify, hrG, hqG, n6, n7]
            have hoH : ∀ k, k ≠ bR → k ≠ bQ → WH.heap[k]? = WG.heap[k]? := fun k h1 h2 => by
              rw [← hWH, edr]
              iterate 6 rw [heap_set_other (by first | exact h1 | exact h2)]
            have hxH : Ext w WH := by
              rw [← hWH]
              refine Ext.drew ?_
              iterate 6 refine Ext.setCell ?_ (by first | exact lR | exact lQ) _
              exact hxG
            have hkH : ∀ (b : Nat) (c : Array Value) (t : TypeId) (f : Nat × Nat), W11.heap[b]? = some (.cells c t f) → t ≠ 24 → t ≠ 28 → WH.heap[b]? = W11.heap[b]? := fun b9 c9 t9 f9 h9 t1 t2 => by
              obtain ⟨h1, h2, h3⟩ := HSG.out b9 c9 t9 f9 h9 t1 t2
              rw [hoH b9 h2 h3, h1, h9]
            have hownH := owns_same HOWN11.out (W := WH) (fun k c f _ hb => hkH k c _ f hb (by decide) (by decide))
            have hinH : ∀ j x, lX[j]? = some x → ∃ A c, VX j = .slice A x.f5.length c ∧ Spns WH A (x.f5.map spnOf) := by
              intro j x9 hj
              have h3 := owns_same (HIN11.out j x9 hj) (W := WH) (fun k c f _ hb => hkH k c _ f hb (by decide) (by decide))
              obtain ⟨A9, c9, hV9, _, _⟩ := owns_slice h3
              rw [hV9] at h3
              exact ⟨A9, c9, hV9, spns_of_owns h3⟩
            have hspH : Spns WH Am (y.more.f5.map spnOf) := Sl.ext (spns_of HM.out) hxH
            obtain ⟨Bf, Cf, hpf⟩ := And.left (pths_push hownH hinH hspH)
            have rc0 : WH.cell? ⟨bR, 0, none⟩ = some (.int .i64 places) := by simp [World.cell?, hrH]
            have rc1 : WH.cell? ⟨bR, 1, none⟩ = some (.slice (some ⟨g', 0, none⟩) (lX.length + 1) cap') := by simp [World.cell?, hrH]
            have qc0 : WH.cell? ⟨bQ, 0, none⟩ = some (.int .i64 p.grade) := by simp [World.cell?, hqH]
            have qc1 : WH.cell? ⟨bQ, 1, none⟩ = some (.int .i64 a1) := by simp [World.cell?, hqH]
            have qc2 : WH.cell? ⟨bQ, 2, none⟩ = some (.int .i64 a2) := by simp [World.cell?, hqH]
            have qc3 : WH.cell? ⟨bQ, 3, none⟩ = some (.int .i64 a3) := by simp [World.cell?, hqH]
            have HPF := Lib.hid hpf
            have HXH := Lib.hid hxH
            clear hWH hrH hqH hoH hxH hkH hownH hinH hspH hpf
            go_wp2
            refine bodyPost_ret (v := .tuple #[.agg #[.int .i64 places, .slice (some ⟨g', 0, none⟩) (lX.length + 1) cap'], .agg #[.int .i64 p.grade, .int .i64 a1, .int .i64 a2, .int .i64 a3]]) (by simp [results, Try.results9, go_sem, rc0, rc1, qc0, qc1, qc2, qc3]) rfl ⟨some ⟨g', 0, none⟩, cap', Bf, Cf, ?_, ?_, HXH.out⟩
            · first
                | (rw [hlF.out, HA1.out, HA2.out, HA3.out]; done)
                | (rw [hlF.out, HA1.out, HA2.out, HA3.out]; simp; done)
            · rw [hlF.out]
              exact HPF.out
        · rw [Bool.not_eq_true] at hv
          rw [hv, show okErr false 10 = 10 from rfl]
          have hlF : Hid (easedL places l y = lX) := Lib.hid (by unfold easedL; rw [HLX.out]; exact if_neg (by show ¬ netOk ⟨places, (lX ++ [y.more]).map pthOf⟩ = true; rw [hv]; simp))
          have HOK12 := Lib.hid hv
          clear hv
          have hle : lX.length ≤ cap' := by
            rcases HOWN11.out.2 with ⟨h9, _⟩ | ⟨_, _, _, h9, _, _, h8, _⟩
            · cases h9
            · injection h9 with _ _ h9; omega
          have mc0 : w12.cell? ⟨bm, 0, none⟩ = some (.int .i64 places) := by simp [World.cell?, hm12]
          have mc1 : w12.cell? ⟨bm, 1, none⟩ = some (.slice (some ⟨g', 0, none⟩) (lX.length + 1) cap') := by simp [World.cell?, hm12]
          have mz : ∀ j, w12.frozen? ⟨bm, j, none⟩ = false := by intro j; simp [World.frozen?, hm12]
          go_upto_region 12 with (fail)
          obtain ⟨W13, hW13⟩ : ∃ W13, w12.setCell ⟨bm, 1, none⟩ (.slice (some ⟨g', 0, none⟩) lX.length cap') = W13 := ⟨_, rfl⟩
          rw [hW13]
          have hm13 : W13.heap[bm]? = some (.cells #[.int .i64 places, .slice (some ⟨g', 0, none⟩) lX.length cap'] 24 (0, 0)) := by rw [← hW13]; simp [World.setCell, Array.getElem?_modify, hm12]
          have hx013 : Ext W0 W13 := hW13 ▸ hx012.setCell (p := ⟨bm, 1, none⟩) hbm0 _
          have hsame13 : ∀ (b : Nat) (c : Array Value) (t : TypeId) (f : Nat × Nat), W11.heap[b]? = some (.cells c t f) → t ≠ 24 → t ≠ 28 → W13.heap[b]? = some (.cells c t f) := fun b9 c9 t9 f9 h9 t1 t2 => by
            have h1 := HSA12.out b9 c9 t9 f9 h9 t1 t2
            rw [← hW13, heap_set_other (by exact block_ne_of_type h1 hm12 t1)]
            exact h1
          have HSA13 := Lib.hid hsame13
          clear hsame13 hW13 mc0 mc1 mz hm12 hx012
          have hpF : W13.heap[bp]? = some (.cells #[.int .i64 p.grade, .int .i64 p.load, .int .i64 p.pace.lo, .int .i64 p.pace.hi] 28 (0, 0)) := (hx013.block bp tP).trans hbp
          have hrF : W13.heap[bR]? = some (.cells #[.int .i64 0, .slice none 0 0] 24 (0, 0)) := (hx013.block bR tR).trans hbr
          have hqF : W13.heap[bQ]? = some (.cells #[.int .i64 0, .int .i64 0, .int .i64 0, .int .i64 0] 28 (0, 0)) := (hx013.block bQ b5).trans hbq
          have p0 : W13.cell? ⟨bp, 0, none⟩ = some (.int .i64 p.grade) := by simp [World.cell?, hpF]
          have p1 : W13.cell? ⟨bp, 1, none⟩ = some (.int .i64 p.load) := by simp [World.cell?, hpF]
          have p2 : W13.cell? ⟨bp, 2, none⟩ = some (.int .i64 p.pace.lo) := by simp [World.cell?, hpF]
          have p3 : W13.cell? ⟨bp, 3, none⟩ = some (.int .i64 p.pace.hi) := by simp [World.cell?, hpF]
          have pz : ∀ j, W13.frozen? ⟨bp, j, none⟩ = false := by intro j; simp [World.frozen?, hpF]
          have y1c : W13.cell? ⟨bY, 1, none⟩ = some (.int .i64 y.pace) := (HYE.out W13 1 hx013).trans rfl
          have y2c : W13.cell? ⟨bY, 2, none⟩ = some (.int .i64 y.load) := (HYE.out W13 2 hx013).trans rfl
          have m0 : W13.cell? ⟨bm, 0, none⟩ = some (.int .i64 places) := by simp [World.cell?, hm13]
          have m1 : W13.cell? ⟨bm, 1, none⟩ = some (.slice (some ⟨g', 0, none⟩) lX.length cap') := by simp [World.cell?, hm13]
          have r0 : W13.cell? ⟨bR, 0, none⟩ = some (.int .i64 0) := by simp [World.cell?, hrF]
          have r1 : W13.cell? ⟨bR, 1, none⟩ = some (.slice none 0 0) := by simp [World.cell?, hrF]
          have rz : ∀ j, W13.frozen? ⟨bR, j, none⟩ = false := by intro j; simp [World.frozen?, hrF]
          have q0 : W13.cell? ⟨bQ, 0, none⟩ = some (.int .i64 0) := by simp [World.cell?, hqF]
          have q1 : W13.cell? ⟨bQ, 1, none⟩ = some (.int .i64 0) := by simp [World.cell?, hqF]
          have q2 : W13.cell? ⟨bQ, 2, none⟩ = some (.int .i64 0) := by simp [World.cell?, hqF]
          have q3 : W13.cell? ⟨bQ, 3, none⟩ = some (.int .i64 0) := by simp [World.cell?, hqF]
          have qz : ∀ j, W13.frozen? ⟨bQ, j, none⟩ = false := by intro j; simp [World.frozen?, hqF]
          obtain ⟨pk1, ⟨pk2, pk3, pk4⟩, ⟨pk5, pk6⟩⟩ := partyOk_iff.1 HPK.out
          go_upto_region 14 with (fail)
          obtain ⟨a1, ha1⟩ : ∃ a1 : Int, a1 = max 0 (p.load - y.load) := ⟨_, rfl⟩
          obtain ⟨a2, ha2⟩ : ∃ a2 : Int, a2 = max 50 (p.pace.lo - y.pace) := ⟨_, rfl⟩
          obtain ⟨a3, ha3⟩ : ∃ a3 : Int, a3 = max 50 (p.pace.hi - y.pace) := ⟨_, rfl⟩
          rw [show (if y.load < p.load then p.load - y.load else 0) = a1 by rw [ha1]; split <;> omega, show (if 50 < p.pace.lo - y.pace then p.pace.lo - y.pace else 50) = a2 by rw [ha2]; split <;> omega, show (if 50 < p.pace.hi - y.pace then p.pace.hi - y.pace else 50) = a3 by rw [ha3]; split <;> omega]
          obtain ⟨WG, hWG⟩ : ∃ WG, ((W13.setCell ⟨bp, 1, none⟩ (.int .i64 a1)).setCell ⟨bp, 2, none⟩ (.int .i64 a2)).setCell ⟨bp, 3, none⟩ (.int .i64 a3) = WG := ⟨_, rfl⟩
          rw [hWG]
          have hoG : ∀ k, k ≠ bp → WG.heap[k]? = W13.heap[k]? := fun k hk => by rw [← hWG, heap_set_other (by exact hk), heap_set_other (by exact hk), heap_set_other (by exact hk)]
          have hpG : WG.heap[bp]? = some (.cells #[.int .i64 p.grade, .int .i64 a1, .int .i64 a2, .int .i64 a3] 28 (0, 0)) := by rw [← hWG]; simp [World.setCell, Array.getElem?_modify, hpF]
          have hxG : Ext w WG := hWG ▸ ((((hx0.trans hx013).setCell (p := ⟨bp, 1, none⟩) lP _).setCell (p := ⟨bp, 2, none⟩) lP _).setCell (p := ⟨bp, 3, none⟩) lP _)
          have hmG : WG.heap[bm]? = some (.cells #[.int .i64 places, .slice (some ⟨g', 0, none⟩) lX.length cap'] 24 (0, 0)) := (hoG bm n3).trans hm13
          have hrG : WG.heap[bR]? = some (.cells #[.int .i64 0, .slice none 0 0] 24 (0, 0)) := (hoG bR n4).trans hrF
          have hqG : WG.heap[bQ]? = some (.cells #[.int .i64 0, .int .i64 0, .int .i64 0, .int .i64 0] 28 (0, 0)) := (hoG bQ n5).trans hqF
          have HA1 := Lib.hid ha1
          have HA2 := Lib.hid ha2
          have HA3 := Lib.hid ha3
          have HOG := Lib.hid hoG
          clear ha1 ha2 ha3 hoG hWG p0 p1 p2 p3 pz y1c y2c m0 m1 r0 r1 rz q0 q1 q2 q3 qz hpF hrF hqF pk1 pk2 pk3 pk4 pk5 pk6
          have p0 : WG.cell? ⟨bp, 0, none⟩ = some (.int .i64 p.grade) := by simp [World.cell?, hpG]
          have p1 : WG.cell? ⟨bp, 1, none⟩ = some (.int .i64 a1) := by simp [World.cell?, hpG]
          have p2 : WG.cell? ⟨bp, 2, none⟩ = some (.int .i64 a2) := by simp [World.cell?, hpG]
          have p3 : WG.cell? ⟨bp, 3, none⟩ = some (.int .i64 a3) := by simp [World.cell?, hpG]
          have m0 : WG.cell? ⟨bm, 0, none⟩ = some (.int .i64 places) := by simp [World.cell?, hmG]
          have m1 : WG.cell? ⟨bm, 1, none⟩ = some (.slice (some ⟨g', 0, none⟩) lX.length cap') := by simp [World.cell?, hmG]
          have r0 : WG.cell? ⟨bR, 0, none⟩ = some (.int .i64 0) := by simp [World.cell?, hrG]
          have r1 : WG.cell? ⟨bR, 1, none⟩ = some (.slice none 0 0) := by simp [World.cell?, hrG]
          have rz : ∀ j, WG.frozen? ⟨bR, j, none⟩ = false := by intro j; simp [World.frozen?, hrG]
          have q0 : WG.cell? ⟨bQ, 0, none⟩ = some (.int .i64 0) := by simp [World.cell?, hqG]
          have q1 : WG.cell? ⟨bQ, 1, none⟩ = some (.int .i64 0) := by simp [World.cell?, hqG]
          have q2 : WG.cell? ⟨bQ, 2, none⟩ = some (.int .i64 0) := by simp [World.cell?, hqG]
          have q3 : WG.cell? ⟨bQ, 3, none⟩ = some (.int .i64 0) := by simp [World.cell?, hqG]
          have qz : ∀ j, WG.frozen? ⟨bQ, j, none⟩ = false := by intro j; simp [World.frozen?, hqG]
          have hrF := (HOG.out bR n4).symm.trans hrG
          have hqF := (HOG.out bQ n5).symm.trans hqG
          have hsG : ∀ (b : Nat) (c : Array Value) (t : TypeId) (f : Nat × Nat), W11.heap[b]? = some (.cells c t f) → t ≠ 24 → t ≠ 28 → WG.heap[b]? = some (.cells c t f) ∧ b ≠ bR ∧ b ≠ bQ := fun b9 c9 t9 f9 h9 t1 t2 => by
            have h1 := HSA13.out b9 c9 t9 f9 h9 t1 t2
            have e1 := block_ne_of_type h1 hrF t1
            have e2 := block_ne_of_type h1 hqF t2
            have e3 : b9 ≠ bp := by
              intro e
              have h2 := (HSA13.out b9 c9 t9 f9 h9 t1 t2)
              rw [e] at h2
              exact block_ne_of_type h2 (show W13.heap[bp]? = some (.cells #[.int .i64 p.grade, .int .i64 p.load, .int .i64 p.pace.lo, .int .i64 p.pace.hi] 28 (0, 0)) from (hx013.block bp tP).trans hbp) t2 rfl
            exact ⟨(HOG.out b9 e3).trans h1, e1, e2⟩
          have HSG := Lib.hid hsG
          clear hsG hrF hqF
          go_region
          all_goals
            generalize hWH : World.drew _ = WH
            have edr : ∀ X : World, X.drew.heap = X.heap := fun _ => rfl
            have hrH : WH.heap[bR]? = some (.cells #[.int .i64 places, .slice (some ⟨g', 0, none⟩) lX.length cap'] 24 (0, 0)) := by rw [← hWH, edr]; simp [World.setCell, Array.getElem?_modify, hrG, hqG, n6, n7]
            have hqH : WH.heap[bQ]? = some (.cells #[.int .i64 p.grade, .int .i64 a1, .int .i64 a2, .int .i64 a3] 28 (0, 0)) := by rw [← hWH, edr]; simp [World.setCell, Array.getElem?_modify, hrG, hqG, n6, n7]
            have hoH : ∀ k, k ≠ bR → k ≠ bQ → WH.heap[k]? = WG.heap[k]? := fun k h1 h2 => by
              rw [← hWH, edr]
              iterate 6 rw [heap_set_other (by first | exact h1 | exact h2)]
            have hxH : Ext w WH := by
              rw [← hWH]
              refine Ext.drew ?_
              iterate 6 refine Ext.setCell ?_ (by first | exact lR | exact lQ) _
              exact hxG
            have hkH : ∀ (b : Nat) (c : Array Value) (t : TypeId) (f : Nat × Nat), W11.heap[b]? = some (.cells c t f) → t ≠ 24 → t ≠ 28 → WH.heap[b]? = W11.heap[b]? := fun b9 c9 t9 f9 h9 t1 t2 => by
              obtain ⟨h1, h2, h3⟩ := HSG.out b9 c9 t9 f9 h9 t1 t2
              rw [hoH b9 h2 h3, h1, h9]
            have hownH := owns_same HOWN11.out (W := WH) (fun k c f _ hb => hkH k c _ f hb (by decide) (by decide))
            have hinH : ∀ j x, lX[j]? = some x → ∃ A c, VX j = .slice A x.f5.length c ∧ Spns WH A (x.f5.map spnOf) := by
              intro j x9 hj
              have h3 := owns_same (HIN11.out j x9 hj) (W := WH) (fun k c f _ hb => hkH k c _ f hb (by decide) (by decide))
              obtain ⟨A9, c9, hV9, _, _⟩ := owns_slice h3
              rw [hV9] at h3
              exact ⟨A9, c9, hV9, spns_of_owns h3⟩
            have hspH : Spns WH Am (y.more.f5.map spnOf) := Sl.ext (spns_of HM.out) hxH
            obtain ⟨Bf, Cf, hpf⟩ := And.right (pths_push hownH hinH hspH)
            have rc0 : WH.cell? ⟨bR, 0, none⟩ = some (.int .i64 places) := by simp [World.cell?, hrH]
            have rc1 : WH.cell? ⟨bR, 1, none⟩ = some (.slice (some ⟨g', 0, none⟩) lX.length cap') := by simp [World.cell?, hrH]
            have qc0 : WH.cell? ⟨bQ, 0, none⟩ = some (.int .i64 p.grade) := by simp [World.cell?, hqH]
            have qc1 : WH.cell? ⟨bQ, 1, none⟩ = some (.int .i64 a1) := by simp [World.cell?, hqH]
            have qc2 : WH.cell? ⟨bQ, 2, none⟩ = some (.int .i64 a2) := by simp [World.cell?, hqH]
            have qc3 : WH.cell? ⟨bQ, 3, none⟩ = some (.int .i64 a3) := by simp [World.cell?, hqH]
            have HPF := Lib.hid hpf
            have HXH := Lib.hid hxH
            clear hWH hrH hqH hoH hxH hkH hownH hinH hspH hpf
            go_wp2
            refine bodyPost_ret (v := .tuple #[.agg #[.int .i64 places, .slice (some ⟨g', 0, none⟩) lX.length cap'], .agg #[.int .i64 p.grade, .int .i64 a1, .int .i64 a2, .int .i64 a3]]) (by simp [results, Try.results9, go_sem, rc0, rc1, qc0, qc1, qc2, qc3]) rfl ⟨some ⟨g', 0, none⟩, cap', Bf, Cf, ?_, ?_, HXH.out⟩
            · first
                | (rw [hlF.out, HA1.out, HA2.out, HA3.out]; done)
                | (rw [hlF.out, HA1.out, HA2.out, HA3.out]; simp; done)
            · rw [hlF.out]
              exact HPF.out
    · have HOPS : Hid ((easedX x y).f5 = x.f5) := Lib.hid (by simp only [easedX]; rw [if_neg (fun h => c1 h.1)])
      go_upto_region 9 with (fail)
      have HNO1 := Lib.hid HN2.out.own
      have HNO2 := Lib.hid (fun j x9 (_ : j ≠ q) h9 => HN2.out.inn j x9 h9)
      have HNO3 := Lib.hid (fun i j b h1 (_ : i ≠ q) (_ : j ≠ q) h2 h3 => HN2.out.apart i j b h1 h2 h3)
      have HOW := HOW2
      have HAP := HAP2
      have hxo := hx02'
      have hbmo := hbm2
      have HOP := Lib.hid (show easedX x y = ⟨x.f0, x.f1, gr, x.f3, ⟨sl, sh⟩, x.f5⟩ by rw [HGR.out, HSL.out, HSH.out, ← HOPS.out]; rfl)
      have hnx := nn_put (q := q) HNO1.out HNO2.out HNO3.out hq (easedX x y) (.slice Dq x.f5.length cq) (by rw [HOP.out]; exact HOW.out) HAP.out
      have hlx : easedB l y = l.set q (easedX x y) := by
        unfold easedB
        rw [dif_pos (by rw [HQI.out]; omega)]
        have e1 : y.path.toNat = q := by rw [HQI.out]; simp
        simp only [e1]
        rw [HX.out]
      have elx : (easedB l y).length = l.length := by rw [hlx, List.length_set]
      rw [← hlx, elx, HOP.out] at hnx
      have HNX0 := Lib.hid hnx
      clear hnx hlx
      obtain ⟨WX, hWX⟩ : ∃ WX, sets8 W2 g (q * 8) ⟨x.f0, x.f1, gr, x.f3, ⟨sl, sh⟩, x.f5⟩ (.slice Dq x.f5.length cq) = WX := ⟨_, rfl⟩
      have hgm : g ≠ bm := by
        obtain ⟨_, _, c9, hc9⟩ := owns_lt HN1.out.own (g := g) rfl
        exact block_ne_of_type hc9 hbm (by decide)
      have hgo : W0.heap.size ≤ g := ((owns_lt HN1.out.own (g := g) rfl).1)
      have hmX : WX.heap[bm]? = some (.cells #[.int .i64 places, .slice (some ⟨g, 0, none⟩) l.length cap] 24 (0, 0)) := by rw [← hWX, sets8_other (Ne.symm hgm)]; exact hbmo
      have hx0X : Ext W0 WX := hWX ▸ sets8_ext hxo hgo
      show Code.wp _ _ _ _ (sets8 W2 g (q * 8) ⟨x.f0, x.f1, gr, x.f3, ⟨sl, sh⟩, x.f5⟩ (.slice Dq x.f5.length cq))
      rw [hWX] at HNX0 ⊢
      obtain ⟨lX, hlX⟩ : ∃ lX, easedB l y = lX := ⟨_, rfl⟩
      obtain ⟨VX, hVX⟩ : ∃ VX : Nat → Value, (fun j => if j = q then .slice Dq x.f5.length cq else V j) = VX := ⟨_, rfl⟩
      rw [hVX, hlX] at HNX0
      have hlXl : lX.length = l.length := by rw [← hlX]; exact elx
      rw [← hlXl] at HNX0 hmX
      have HNX := HNX0
      have HLX := Lib.hid hlX
      have hlX9 : lX.length ≤ 9 := by omega
      clear hlX hVX HNX0 HNO1 HNO2 HNO3 HOW HAP HOP HOPS hWX hbmo hxo elx hlXl hgo hgm
      obtain ⟨i0, hi, hz0, hz1, hz2⟩ := info_parts L.info34
      obtain ⟨WA, hWA⟩ : ∃ WA, WX.alloc (.cells #[.int .i64 y.more.f0, .int .i64 y.more.f1, .int .i64 y.more.f2, .int .i64 y.more.f3.f0, .int .i64 y.more.f3.f1, .int .i64 y.more.f4.f0, .int .i64 y.more.f4.f1, .slice Am y.more.f5.length cm] 34) = WA := ⟨_, rfl⟩
      have hxA : Ext WX WA := hWA ▸ (Ext.refl _).alloc _
      have hna : WA.heap[WX.heap.size]? = some (.cells #[.int .i64 y.more.f0, .int .i64 y.more.f1, .int .i64 y.more.f2, .int .i64 y.more.f3.f0, .int .i64 y.more.f3.f1, .int .i64 y.more.f4.f0, .int .i64 y.more.f4.f1, .slice Am y.more.f5.length cm] 34 (0, 0)) := by rw [← hWA]; exact heap_alloc_new _ _
      have hown := owns_pw HNX.out.own hxA
      have hbmX : bm < WX.heap.size := (Array.getElem?_eq_some_iff.1 hmX).1
      have hmA : WA.heap[bm]? = some (.cells #[.int .i64 places, .slice (some ⟨g, 0, none⟩) lX.length cap] 24 (0, 0)) := (hxA.block bm hbmX).trans hmX
      have hx0A : Ext W0 WA := hx0X.trans hxA
      have hb10 : ∀ w10, WA.grownBy w10 (Value.slice (some ⟨g, 0, none⟩) lX.length cap).ownBlock → w10.heap[bm]? = some (.cells #[.int .i64 places, .slice (some ⟨g, 0, none⟩) lX.length cap] 24 (0, 0)) := fun w10 hg =>
        (hg.block bm (Array.getElem?_eq_some_iff.1 hmA).1 (fun e => by
          obtain ⟨_, _, c9, hc9⟩ := owns_lt hown e.symm
          exact block_ne_of_type hc9 hmA (by decide) rfl)).trans hmA
      have hbase : W0.heap.size ≤ WA.heap.size := hx0A.size
      have mEX : ∀ W9 j, Ext WX W9 → W9.cell? ⟨bm, j, none⟩ = (#[.int .i64 places, .slice (some ⟨g, 0, none⟩) lX.length cap] : Array Value)[j]? := fun W9 j h => by rw [h.cell (by simp; omega)]; simp [World.cell?, hmX]
      have HOWN := Lib.hid hown
      have HI := Lib.hid hi
      have HB10 := Lib.hid hb10
      have HMA := Lib.hid hmA
      clear hown hi hb10 hmA
      have hcap : lX.length + 1 ≤ maxLen := Nat.le_trans (show lX.length + 1 ≤ 10 by omega) (by decide)
      have HC := Lib.hid hcap
      clear hcap
      have yX : ∀ W9 j, Ext WX W9 → W9.cell? ⟨bY, j, none⟩ = (#[.int .i64 y.later, .int .i64 y.pace, .int .i64 y.load, .int .i64 (q : Int), .int .i64 y.grade, .int .i64 y.snow, .int .i64 y.opens, .int .i64 y.more.f0, .int .i64 y.more.f1, .int .i64 y.more.f2, .int .i64 y.more.f3.f0, .int .i64 y.more.f3.f1, .int .i64 y.more.f4.f0, .int .i64 y.more.f4.f1, .slice Am y.more.f5.length cm] : Array Value)[j]? := fun W9 j h => yE W9 j (hx0X.trans h)
      have HYE := Lib.hid yE
      clear yE hc
      go_wp2_with (at_builtin; refine wpList_append_own _ rfl _ _ 22 rfl W0.heap.size 34 i0 (.agg #[.int .i64 0, .int .i64 0, .int .i64 0, .int .i64 0, .int .i64 0, .int .i64 0, .int .i64 0, .slice none 0 0]) 8 80 Try.underlying22 HI.out hz0 hz1 hz2 rfl (by decide) (.slice (some ⟨g, 0, none⟩) lX.length cap) lX.length (pcells VX 0 lX) rfl HOWN.out ⟨WX.heap.size, 0, none⟩ 1 1 [.int .i64 y.more.f0, .int .i64 y.more.f1, .int .i64 y.more.f2, .int .i64 y.more.f3.f0, .int .i64 y.more.f3.f1, .int .i64 y.more.f4.f0, .int .i64 y.more.f4.f1, .slice Am y.more.f5.length cm] rfl rfl (World.news_of_block hna) (by simp [Value.oneCell']) HC.out (by omega) hbase ?_; intro v' w10 hown' hgr hnil; clear hnil; have n10 := HB10.out _ hgr; obtain ⟨g', cap', rfl, hg1, hg2⟩ := hown'.form (by omega); have nc0 : w10.cell? ⟨bm, 0, none⟩ = some (.int .i64 places) := (by simp [World.cell?, n10]); have nc10 : w10.cell? ⟨bm, 1, none⟩ = some (.slice (some ⟨g, 0, none⟩) lX.length cap) := (by simp [World.cell?, n10]); have nz10 : ∀ j, w10.frozen? ⟨bm, j, none⟩ = false := (by intro j; simp [World.frozen?, n10]))
      have hown := HOWN.out
      have hgne : g' ≠ bm := by
        obtain ⟨_, _, c9, hc9⟩ := owns_lt hown' (g := g') rfl
        exact block_ne_of_type hc9 n10 (by decide)
      have hx010 : Ext W0 w10 := ⟨hgr.os.trans hx0A.os, hgr.tape.trans hx0A.tape, hgr.output.trans hx0A.output, Nat.le_trans hx0A.size hgr.size, fun k hk => (hgr.block k (Nat.lt_of_lt_of_le hk hx0A.size) (fun e => by have := (owns_lt hown e.symm).1; omega)).trans (hx0A.block k hk)⟩
      obtain ⟨W11, hW11⟩ : ∃ W11, w10.setCell ⟨bm, 1, none⟩ (.slice (some ⟨g', 0, none⟩) (lX.length + 1) cap') = W11 := ⟨_, rfl⟩
      rw [hW11]
      have hx011 : Ext W0 W11 := hW11 ▸ hx010.setCell (p := ⟨bm, 1, none⟩) hbm0 _
      have hm11 : W11.heap[bm]? = some (.cells #[.int .i64 places, .slice (some ⟨g', 0, none⟩) (lX.length + 1) cap'] 24 (0, 0)) := by rw [← hW11]; simp [World.setCell, Array.getElem?_modify, n10]
      have hin11' : ∀ j x, lX[j]? = some x → W11.ownsRow W0.heap.size 26 2 (VX j) x.f5.length (scells x.f5) := by
        intro j x9 hj
        have h1 := owns_pw (HNX.out.inn j x9 hj) hxA
        have h2 : w10.ownsRow W0.heap.size 26 2 (VX j) x9.f5.length (scells x9.f5) := h1.kept hgr (by
          rcases hob : (VX j).ownBlock with _ | k9
          · exact .inl rfl
          · refine .inr (fun e => ?_)
            obtain ⟨_, _, c9, hc9⟩ := owns_lt h1 hob
            obtain ⟨_, _, d9, hd9⟩ := owns_lt hown e.symm
            exact block_ne_of_type hc9 hd9 (by decide) rfl)
        have h3 := owns_store h2 (g := bm) (fun e => by
          obtain ⟨_, _, c9, hc9⟩ := owns_lt h2 e
          exact block_ne_of_type hc9 n10 (by decide) rfl) 1 (.slice (some ⟨g', 0, none⟩) (lX.length + 1) cap')
        rw [hW11] at h3
        exact h3
      have hin11 : ∀ j x, lX[j]? = some x → ∃ A c, VX j = .slice A x.f5.length c ∧ Spns W11 A (x.f5.map spnOf) := by
        intro j x9 hj
        have h3 := hin11' j x9 hj
        obtain ⟨A9, c9, hV9, _, _⟩ := owns_slice h3
        rw [hV9] at h3
        exact ⟨A9, c9, hV9, spns_of_owns h3⟩
      have hown11 := owns_store hown' (g := bm) (fun e => hgne (by simpa [Value.ownBlock] using e)) 1 (.slice (some ⟨g', 0, none⟩) (lX.length + 1) cap')
      rw [hW11] at hown11
      have hsp : Spns W11 Am (y.more.f5.map spnOf) := Sl.ext (spns_of HM.out) (hx0.trans hx011)
      obtain ⟨⟨B1, C1, hp1⟩, ⟨B2, C2, hp2⟩⟩ := pths_push hown11 hin11 hsp
      have HIN11 := Lib.hid hin11'
      have HOWN11 := Lib.hid hown11
      have hch := ref01_Check (ntOf places (lX ++ [y.more])) _ B1 C1 cap' W11 hp1
      simp only [vNt, ntOf, List.length_map, List.length_append, List.length_singleton] at hch
      have HCH := Lib.hid hch
      clear hch hp1 hp2 hsp hown11 hin11 hin11' hown hW11 hx010 hgne nz10 nc10 nc0 n10 hg2 hgr hown' HB10 HMA HOWN hWA hxA hna mEX yX hx0A hx0X hmX HNX hz0 hz1 hz2 HI hbase hbmX
      refine HCH.out.mono ?_
      clear HCH
      rintro e w12 ⟨rfl, hx12'⟩
      have hx012 : Ext W0 w12 := hx011.trans hx12'
      have hm12 : w12.heap[bm]? = some (.cells #[.int .i64 places, .slice (some ⟨g', 0, none⟩) (lX.length + 1) cap'] 24 (0, 0)) := (hx12'.block bm (Array.getElem?_eq_some_iff.1 hm11).1).trans hm11
      have hsame12 : ∀ (b : Nat) (c : Array Value) (t : TypeId) (f : Nat × Nat), W11.heap[b]? = some (.cells c t f) → t ≠ 24 → t ≠ 28 → w12.heap[b]? = some (.cells c t f) := fun b9 c9 t9 f9 h9 _ _ => (hx12'.block b9 (Array.getElem?_eq_some_iff.1 h9).1).trans h9
      have HSA12 := Lib.hid hsame12
      clear hsame12 hx12' hm11 hx011
      by_cases hv : netOk ⟨places, (lX ++ [y.more]).map pthOf⟩ = true
      · rw [hv, show okErr true 10 = 0 from rfl]
        have hlF : Hid (easedL places l y = lX ++ [y.more]) := Lib.hid (by unfold easedL; rw [HLX.out]; exact if_pos hv)
        have HOK12 := Lib.hid hv
        clear hv
        have hpF : w12.heap[bp]? = some (.cells #[.int .i64 p.grade, .int .i64 p.load, .int .i64 p.pace.lo, .int .i64 p.pace.hi] 28 (0, 0)) := (hx012.block bp tP).trans hbp
        have hrF : w12.heap[bR]? = some (.cells #[.int .i64 0, .slice none 0 0] 24 (0, 0)) := (hx012.block bR tR).trans hbr
        have hqF : w12.heap[bQ]? = some (.cells #[.int .i64 0, .int .i64 0, .int .i64 0, .int .i64 0] 28 (0, 0)) := (hx012.block bQ b5).trans hbq
        have p0 : w12.cell? ⟨bp, 0, none⟩ = some (.int .i64 p.grade) := by simp [World.cell?, hpF]
        have p1 : w12.cell? ⟨bp, 1, none⟩ = some (.int .i64 p.load) := by simp [World.cell?, hpF]
        have p2 : w12.cell? ⟨bp, 2, none⟩ = some (.int .i64 p.pace.lo) := by simp [World.cell?, hpF]
        have p3 : w12.cell? ⟨bp, 3, none⟩ = some (.int .i64 p.pace.hi) := by simp [World.cell?, hpF]
        have pz : ∀ j, w12.frozen? ⟨bp, j, none⟩ = false := by intro j; simp [World.frozen?, hpF]
        have y1c : w12.cell? ⟨bY, 1, none⟩ = some (.int .i64 y.pace) := (HYE.out w12 1 hx012).trans rfl
        have y2c : w12.cell? ⟨bY, 2, none⟩ = some (.int .i64 y.load) := (HYE.out w12 2 hx012).trans rfl
        have m0 : w12.cell? ⟨bm, 0, none⟩ = some (.int .i64 places) := by simp [World.cell?, hm12]
        have m1 : w12.cell? ⟨bm, 1, none⟩ = some (.slice (some ⟨g', 0, none⟩) (lX.length + 1) cap') := by simp [World.cell?, hm12]
        have r0 : w12.cell? ⟨bR, 0, none⟩ = some (.int .i64 0) := by simp [World.cell?, hrF]
        have r1 : w12.cell? ⟨bR, 1, none⟩ = some (.slice none 0 0) := by simp [World.cell?, hrF]
        have rz : ∀ j, w12.frozen? ⟨bR, j, none⟩ = false := by intro j; simp [World.frozen?, hrF]
        have q0 : w12.cell? ⟨bQ, 0, none⟩ = some (.int .i64 0) := by simp [World.cell?, hqF]
        have q1 : w12.cell? ⟨bQ, 1, none⟩ = some (.int .i64 0) := by simp [World.cell?, hqF]
        have q2 : w12.cell? ⟨bQ, 2, none⟩ = some (.int .i64 0) := by simp [World.cell?, hqF]
        have q3 : w12.cell? ⟨bQ, 3, none⟩ = some (.int .i64 0) := by simp [World.cell?, hqF]
        have qz : ∀ j, w12.frozen? ⟨bQ, j, none⟩ = false := by intro j; simp [World.frozen?, hqF]
        obtain ⟨pk1, ⟨pk2, pk3, pk4⟩, ⟨pk5, pk6⟩⟩ := partyOk_iff.1 HPK.out
        go_upto_region 14 with (fail)
        obtain ⟨a1, ha1⟩ : ∃ a1 : Int, a1 = max 0 (p.load - y.load) := ⟨_, rfl⟩
        obtain ⟨a2, ha2⟩ : ∃ a2 : Int, a2 = max 50 (p.pace.lo - y.pace) := ⟨_, rfl⟩
        obtain ⟨a3, ha3⟩ : ∃ a3 : Int, a3 = max 50 (p.pace.hi - y.pace) := ⟨_, rfl⟩
        rw [show (if y.load < p.load then p.load - y.load else 0) = a1 by rw [ha1]; split <;> omega, show (if 50 < p.pace.lo - y.pace then p.pace.lo - y.pace else 50) = a2 by rw [ha2]; split <;> omega, show (if 50 < p.pace.hi - y.pace then p.pace.hi - y.pace else 50) = a3 by rw [ha3]; split <;> omega]
        obtain ⟨WG, hWG⟩ : ∃ WG, ((w12.setCell ⟨bp, 1, none⟩ (.int .i64 a1)).setCell ⟨bp, 2, none⟩ (.int .i64 a2)).setCell ⟨bp, 3, none⟩ (.int .i64 a3) = WG := ⟨_, rfl⟩
        rw [hWG]
        have hoG : ∀ k, k ≠ bp → WG.heap[k]? = w12.heap[k]? := fun k hk => by rw [← hWG, heap_set_other (by exact hk), heap_set_other (by exact hk), heap_set_other (by exact hk)]
        have hpG : WG.heap[bp]? = some (.cells #[.int .i64 p.grade, .int .i64 a1, .int .i64 a2, .int .i64 a3] 28 (0, 0)) := by rw [← hWG]; simp [World.setCell, Array.getElem?_modify, hpF]
        have hxG : Ext w WG := hWG ▸ ((((hx0.trans hx012).setCell (p := ⟨bp, 1, none⟩) lP _).setCell (p := ⟨bp, 2, none⟩) lP _).setCell (p := ⟨bp, 3, none⟩) lP _)
        have hmG : WG.heap[bm]? = some (.cells #[.int .i64 places, .slice (some ⟨g', 0, none⟩) (lX.length + 1) cap'] 24 (0, 0)) := (hoG bm n3).trans hm12
        have hrG : WG.heap[bR]? = some (.cells #[.int .i64 0, .slice none 0 0] 24 (0, 0)) := (hoG bR n4).trans hrF
        have hqG : WG.heap[bQ]? = some (.cells #[.int .i64 0, .int .i64 0, .int .i64 0, .int .i64 0] 28 (0, 0)) := (hoG bQ n5).trans hqF
        have HA1 := Lib.hid ha1
        have HA2 := Lib.hid ha2
        have HA3 := Lib.hid ha3
        have HOG := Lib.hid hoG
        clear ha1 ha2 ha3 hoG hWG p0 p1 p2 p3 pz y1c y2c m0 m1 r0 r1 rz q0 q1 q2 q3 qz hpF hrF hqF pk1 pk2 pk3 pk4 pk5 pk6
        have p0 : WG.cell? ⟨bp, 0, none⟩ = some (.int .i64 p.grade) := by simp [World.cell?, hpG]
        have p1 : WG.cell? ⟨bp, 1, none⟩ = some (.int .i64 a1) := by simp [World.cell?, hpG]
        have p2 : WG.cell? ⟨bp, 2, none⟩ = some (.int .i64 a2) := by simp [World.cell?, hpG]
        have p3 : WG.cell? ⟨bp, 3, none⟩ = some (.int .i64 a3) := by simp [World.cell?, hpG]
        have m0 : WG.cell? ⟨bm, 0, none⟩ = some (.int .i64 places) := by simp [World.cell?, hmG]
        have m1 : WG.cell? ⟨bm, 1, none⟩ = some (.slice (some ⟨g', 0, none⟩) (lX.length + 1) cap') := by simp [World.cell?, hmG]
        have r0 : WG.cell? ⟨bR, 0, none⟩ = some (.int .i64 0) := by simp [World.cell?, hrG]
        have r1 : WG.cell? ⟨bR, 1, none⟩ = some (.slice none 0 0) := by simp [World.cell?, hrG]
        have rz : ∀ j, WG.frozen? ⟨bR, j, none⟩ = false := by intro j; simp [World.frozen?, hrG]
        have q0 : WG.cell? ⟨bQ, 0, none⟩ = some (.int .i64 0) := by simp [World.cell?, hqG]
        have q1 : WG.cell? ⟨bQ, 1, none⟩ = some (.int .i64 0) := by simp [World.cell?, hqG]
        have q2 : WG.cell? ⟨bQ, 2, none⟩ = some (.int .i64 0) := by simp [World.cell?, hqG]
        have q3 : WG.cell? ⟨bQ, 3, none⟩ = some (.int .i64 0) := by simp [World.cell?, hqG]
        have qz : ∀ j, WG.frozen? ⟨bQ, j, none⟩ = false := by intro j; simp [World.frozen?, hqG]
        have hrF := (HOG.out bR n4).symm.trans hrG
        have hqF := (HOG.out bQ n5).symm.trans hqG
        have hsG : ∀ (b : Nat) (c : Array Value) (t : TypeId) (f : Nat × Nat), W11.heap[b]? = some (.cells c t f) → t ≠ 24 → t ≠ 28 → WG.heap[b]? = some (.cells c t f) ∧ b ≠ bR ∧ b ≠ bQ := fun b9 c9 t9 f9 h9 t1 t2 => by
          have h1 := HSA12.out b9 c9 t9 f9 h9 t1 t2
          have e1 := block_ne_of_type h1 hrF t1
          have e2 := block_ne_of_type h1 hqF t2
          have e3 : b9 ≠ bp := by
            intro e
            have h2 := (HSA12.out b9 c9 t9 f9 h9 t1 t2)
            rw [e] at h2
            exact block_ne_of_type h2 (show w12.heap[bp]? = some (.cells #[.int .i64 p.grade, .int .i64 p.load, .int .i64 p.pace.lo, .int .i64 p.pace.hi] 28 (0, 0)) from (hx012.block bp tP).trans hbp) t2 rfl
          exact ⟨(HOG.out b9 e3).trans h1, e1, e2⟩
        have HSG := Lib.hid hsG
        clear hsG hrF hqF
        go_region
        all_goals
          generalize hWH : World.drew _ = WH
          have edr : ∀ X : World, X.drew.heap = X.heap := fun _ => rfl
          have hrH : WH.heap[bR]? = some (.cells #[.int .i64 places, .slice (some ⟨g', 0, none⟩) (lX.length + 1) cap'] 24 (0, 0)) := by rw [← hWH, edr]; simp [World.setCell, Array.getElem?_modify, hrG, hqG, n6, n7]
          have hqH : WH.heap[bQ]? = some (.cells #[.int .i64 p.grade, .int .i64 a1, .int .i64 a2, .int .i64 a3] 28 (0, 0)) := by rw [← hWH, edr]; simp [World.setCell, Array.getElem?_modify, hrG, hqG, n6, n7]
          have hoH : ∀ k, k ≠ bR → k ≠ bQ → WH.heap[k]? = WG.heap[k]? := fun k h1 h2 => by
            rw [← hWH, edr]
            iterate 6 rw [heap_set_other (by first | exact h1 | exact h2)]
          have hxH : Ext w WH := by
            rw [← hWH]
            refine Ext.drew ?_
            iterate 6 refine Ext.setCell ?_ (by first | exact lR | exact lQ) _
            exact hxG
          have hkH : ∀ (b : Nat) (c : Array Value) (t : TypeId) (f : Nat × Nat), W11.heap[b]? = some (.cells c t f) → t ≠ 24 → t ≠ 28 → WH.heap[b]? = W11.heap[b]? := fun b9 c9 t9 f9 h9 t1 t2 => by
            obtain ⟨h1, h2, h3⟩ := HSG.out b9 c9 t9 f9 h9 t1 t2
            rw [hoH b9 h2 h3, h1, h9]
          have hownH := owns_same HOWN11.out (W := WH) (fun k c f _ hb => hkH k c _ f hb (by decide) (by decide))
          have hinH : ∀ j x, lX[j]? = some x → ∃ A c, VX j = .slice A x.f5.length c ∧ Spns WH A (x.f5.map spnOf) := by
            intro j x9 hj
            have h3 := owns_same (HIN11.out j x9 hj) (W := WH) (fun k c f _ hb => hkH k c _ f hb (by decide) (by decide))
            obtain ⟨A9, c9, hV9, _, _⟩ := owns_slice h3
            rw [hV9] at h3
            exact ⟨A9, c9, hV9, spns_of_owns h3⟩
          have hspH : Spns WH Am (y.more.f5.map spnOf) := Sl.ext (spns_of HM.out) hxH
          obtain ⟨Bf, Cf, hpf⟩ := And.left (pths_push hownH hinH hspH)
          have rc0 : WH.cell? ⟨bR, 0, none⟩ = some (.int .i64 places) := by simp [World.cell?, hrH]
          have rc1 : WH.cell? ⟨bR, 1, none⟩ = some (.slice (some ⟨g', 0, none⟩) (lX.length + 1) cap') := by simp [World.cell?, hrH]
          have qc0 : WH.cell? ⟨bQ, 0, none⟩ = some (.int .i64 p.grade) := by simp [World.cell?, hqH]
          have qc1 : WH.cell? ⟨bQ, 1, none⟩ = some (.int .i64 a1) := by simp [World.cell?, hqH]
          have qc2 : WH.cell? ⟨bQ, 2, none⟩ = some (.int .i64 a2) := by simp [World.cell?, hqH]
          have qc3 : WH.cell? ⟨bQ, 3, none⟩ = some (.int .i64 a3) := by simp [World.cell?, hqH]
          have HPF := Lib.hid hpf
          have HXH := Lib.hid hxH
          clear hWH hrH hqH hoH hxH hkH hownH hinH hspH hpf
          go_wp2
          refine bodyPost_ret (v := .tuple #[.agg #[.int .i64 places, .slice (some ⟨g', 0, none⟩) (lX.length + 1) cap'], .agg #[.int .i64 p.grade, .int .i64 a1, .int .i64 a2, .int .i64 a3]]) (by simp [results, Try.results9, go_sem, rc0, rc1, qc0, qc1, qc2, qc3]) rfl ⟨some ⟨g', 0, none⟩, cap', Bf, Cf, ?_, ?_, HXH.out⟩
          · first
              | (rw [hlF.out, HA1.out, HA2.out, HA3.out]; done)
              | (rw [hlF.out, HA1.out, HA2.out, HA3.out]; simp; done)
          · rw [hlF.out]
            exact HPF.out
      · rw [Bool.not_eq_true] at hv
        rw [hv, show okErr false 10 = 10 from rfl]
        have hlF : Hid (easedL places l y = lX) := Lib.hid (by unfold easedL; rw [HLX.out]; exact if_neg (by show ¬ netOk ⟨places, (lX ++ [y.more]).map pthOf⟩ = true; rw [hv]; simp))
        have HOK12 := Lib.hid hv
        clear hv
        have hle : lX.length ≤ cap' := by
          rcases HOWN11.out.2 with ⟨h9, _⟩ | ⟨_, _, _, h9, _, _, h8, _⟩
          · cases h9
          · injection h9 with _ _ h9; omega
        have mc0 : w12.cell? ⟨bm, 0, none⟩ = some (.int .i64 places) := by simp [World.cell?, hm12]
        have mc1 : w12.cell? ⟨bm, 1, none⟩ = some (.slice (some ⟨g', 0, none⟩) (lX.length + 1) cap') := by simp [World.cell?, hm12]
        have mz : ∀ j, w12.frozen? ⟨bm, j, none⟩ = false := by intro j; simp [World.frozen?, hm12]
        go_upto_region 12 with (fail)
        obtain ⟨W13, hW13⟩ : ∃ W13, w12.setCell ⟨bm, 1, none⟩ (.slice (some ⟨g', 0, none⟩) lX.length cap') = W13 := ⟨_, rfl⟩
        rw [hW13]
        have hm13 : W13.heap[bm]? = some (.cells #[.int .i64 places, .slice (some ⟨g', 0, none⟩) lX.length cap'] 24 (0, 0)) := by rw [← hW13]; simp [World.setCell, Array.getElem?_modify, hm12]
        have hx013 : Ext W0 W13 := hW13 ▸ hx012.setCell (p := ⟨bm, 1, none⟩) hbm0 _
        have hsame13 : ∀ (b : Nat) (c : Array Value) (t : TypeId) (f : Nat × Nat), W11.heap[b]? = some (.cells c t f) → t ≠ 24 → t ≠ 28 → W13.heap[b]? = some (.cells c t f) := fun b9 c9 t9 f9 h9 t1 t2 => by
          have h1 := HSA12.out b9 c9 t9 f9 h9 t1 t2
          rw [← hW13, heap_set_other (by exact block_ne_of_type h1 hm12 t1)]
          exact h1
        have HSA13 := Lib.hid hsame13
        clear hsame13 hW13 mc0 mc1 mz hm12 hx012
        have hpF : W13.heap[bp]? = some (.cells #[.int .i64 p.grade, .int .i64 p.load, .int .i64 p.pace.lo, .int .i64 p.pace.hi] 28 (0, 0)) := (hx013.block bp tP).trans hbp
        have hrF : W13.heap[bR]? = some (.cells #[.int .i64 0, .slice none 0 0] 24 (0, 0)) := (hx013.block bR tR).trans hbr
        have hqF : W13.heap[bQ]? = some (.cells #[.int .i64 0, .int .i64 0, .int .i64 0, .int .i64 0] 28 (0, 0)) := (hx013.block bQ b5).trans hbq
        have p0 : W13.cell? ⟨bp, 0, none⟩ = some (.int .i64 p.grade) := by simp [World.cell?, hpF]
        have p1 : W13.cell? ⟨bp, 1, none⟩ = some (.int .i64 p.load) := by simp [World.cell?, hpF]
        have p2 : W13.cell? ⟨bp, 2, none⟩ = some (.int .i64 p.pace.lo) := by simp [World.cell?, hpF]
        have p3 : W13.cell? ⟨bp, 3, none⟩ = some (.int .i64 p.pace.hi) := by simp [World.cell?, hpF]
        have pz : ∀ j, W13.frozen? ⟨bp, j, none⟩ = false := by intro j; simp [World.frozen?, hpF]
        have y1c : W13.cell? ⟨bY, 1, none⟩ = some (.int .i64 y.pace) := (HYE.out W13 1 hx013).trans rfl
        have y2c : W13.cell? ⟨bY, 2, none⟩ = some (.int .i64 y.load) := (HYE.out W13 2 hx013).trans rfl
        have m0 : W13.cell? ⟨bm, 0, none⟩ = some (.int .i64 places) := by simp [World.cell?, hm13]
        have m1 : W13.cell? ⟨bm, 1, none⟩ = some (.slice (some ⟨g', 0, none⟩) lX.length cap') := by simp [World.cell?, hm13]
        have r0 : W13.cell? ⟨bR, 0, none⟩ = some (.int .i64 0) := by simp [World.cell?, hrF]
        have r1 : W13.cell? ⟨bR, 1, none⟩ = some (.slice none 0 0) := by simp [World.cell?, hrF]
        have rz : ∀ j, W13.frozen? ⟨bR, j, none⟩ = false := by intro j; simp [World.frozen?, hrF]
        have q0 : W13.cell? ⟨bQ, 0, none⟩ = some (.int .i64 0) := by simp [World.cell?, hqF]
        have q1 : W13.cell? ⟨bQ, 1, none⟩ = some (.int .i64 0) := by simp [World.cell?, hqF]
        have q2 : W13.cell? ⟨bQ, 2, none⟩ = some (.int .i64 0) := by simp [World.cell?, hqF]
        have q3 : W13.cell? ⟨bQ, 3, none⟩ = some (.int .i64 0) := by simp [World.cell?, hqF]
        have qz : ∀ j, W13.frozen? ⟨bQ, j, none⟩ = false := by intro j; simp [World.frozen?, hqF]
        obtain ⟨pk1, ⟨pk2, pk3, pk4⟩, ⟨pk5, pk6⟩⟩ := partyOk_iff.1 HPK.out
        go_upto_region 14 with (fail)
        obtain ⟨a1, ha1⟩ : ∃ a1 : Int, a1 = max 0 (p.load - y.load) := ⟨_, rfl⟩
        obtain ⟨a2, ha2⟩ : ∃ a2 : Int, a2 = max 50 (p.pace.lo - y.pace) := ⟨_, rfl⟩
        obtain ⟨a3, ha3⟩ : ∃ a3 : Int, a3 = max 50 (p.pace.hi - y.pace) := ⟨_, rfl⟩
        rw [show (if y.load < p.load then p.load - y.load else 0) = a1 by rw [ha1]; split <;> omega, show (if 50 < p.pace.lo - y.pace then p.pace.lo - y.pace else 50) = a2 by rw [ha2]; split <;> omega, show (if 50 < p.pace.hi - y.pace then p.pace.hi - y.pace else 50) = a3 by rw [ha3]; split <;> omega]
        obtain ⟨WG, hWG⟩ : ∃ WG, ((W13.setCell ⟨bp, 1, none⟩ (.int .i64 a1)).setCell ⟨bp, 2, none⟩ (.int .i64 a2)).setCell ⟨bp, 3, none⟩ (.int .i64 a3) = WG := ⟨_, rfl⟩
        rw [hWG]
        have hoG : ∀ k, k ≠ bp → WG.heap[k]? = W13.heap[k]? := fun k hk => by rw [← hWG, heap_set_other (by exact hk), heap_set_other (by exact hk), heap_set_other (by exact hk)]
        have hpG : WG.heap[bp]? = some (.cells #[.int .i64 p.grade, .int .i64 a1, .int .i64 a2, .int .i64 a3] 28 (0, 0)) := by rw [← hWG]; simp [World.setCell, Array.getElem?_modify, hpF]
        have hxG : Ext w WG := hWG ▸ ((((hx0.trans hx013).setCell (p := ⟨bp, 1, none⟩) lP _).setCell (p := ⟨bp, 2, none⟩) lP _).setCell (p := ⟨bp, 3, none⟩) lP _)
        have hmG : WG.heap[bm]? = some (.cells #[.int .i64 places, .slice (some ⟨g', 0, none⟩) lX.length cap'] 24 (0, 0)) := (hoG bm n3).trans hm13
        have hrG : WG.heap[bR]? = some (.cells #[.int .i64 0, .slice none 0 0] 24 (0, 0)) := (hoG bR n4).trans hrF
        have hqG : WG.heap[bQ]? = some (.cells #[.int .i64 0, .int .i64 0, .int .i64 0, .int .i64 0] 28 (0, 0)) := (hoG bQ n5).trans hqF
        have HA1 := Lib.hid ha1
        have HA2 := Lib.hid ha2
        have HA3 := Lib.hid ha3
        have HOG := Lib.hid hoG
        clear ha1 ha2 ha3 hoG hWG p0 p1 p2 p3 pz y1c y2c m0 m1 r0 r1 rz q0 q1 q2 q3 qz hpF hrF hqF pk1 pk2 pk3 pk4 pk5 pk6
        have p0 : WG.cell? ⟨bp, 0, none⟩ = some (.int .i64 p.grade) := by simp [World.cell?, hpG]
        have p1 : WG.cell? ⟨bp, 1, none⟩ = some (.int .i64 a1) := by simp [World.cell?, hpG]
        have p2 : WG.cell? ⟨bp, 2, none⟩ = some (.int .i64 a2) := by simp [World.cell?, hpG]
        have p3 : WG.cell? ⟨bp, 3, none⟩ = some (.int .i64 a3) := by simp [World.cell?, hpG]
        have m0 : WG.cell? ⟨bm, 0, none⟩ = some (.int .i64 places) := by simp [World.cell?, hmG]
        have m1 : WG.cell? ⟨bm, 1, none⟩ = some (.slice (some ⟨g', 0, none⟩) lX.length cap') := by simp [World.cell?, hmG]
        have r0 : WG.cell? ⟨bR, 0, none⟩ = some (.int .i64 0) := by simp [World.cell?, hrG]
        have r1 : WG.cell? ⟨bR, 1, none⟩ = some (.slice none 0 0) := by simp [World.cell?, hrG]
        have rz : ∀ j, WG.frozen? ⟨bR, j, none⟩ = false := by intro j; simp [World.frozen?, hrG]
        have q0 : WG.cell? ⟨bQ, 0, none⟩ = some (.int .i64 0) := by simp [World.cell?, hqG]
        have q1 : WG.cell? ⟨bQ, 1, none⟩ = some (.int .i64 0) := by simp [World.cell?, hqG]
        have q2 : WG.cell? ⟨bQ, 2, none⟩ = some (.int .i64 0) := by simp [World.cell?, hqG]
        have q3 : WG.cell? ⟨bQ, 3, none⟩ = some (.int .i64 0) := by simp [World.cell?, hqG]
        have qz : ∀ j, WG.frozen? ⟨bQ, j, none⟩ = false := by intro j; simp [World.frozen?, hqG]
        have hrF := (HOG.out bR n4).symm.trans hrG
        have hqF := (HOG.out bQ n5).symm.trans hqG
        have hsG : ∀ (b : Nat) (c : Array Value) (t : TypeId) (f : Nat × Nat), W11.heap[b]? = some (.cells c t f) → t ≠ 24 → t ≠ 28 → WG.heap[b]? = some (.cells c t f) ∧ b ≠ bR ∧ b ≠ bQ := fun b9 c9 t9 f9 h9 t1 t2 => by
          have h1 := HSA13.out b9 c9 t9 f9 h9 t1 t2
          have e1 := block_ne_of_type h1 hrF t1
          have e2 := block_ne_of_type h1 hqF t2
          have e3 : b9 ≠ bp := by
            intro e
            have h2 := (HSA13.out b9 c9 t9 f9 h9 t1 t2)
            rw [e] at h2
            exact block_ne_of_type h2 (show W13.heap[bp]? = some (.cells #[.int .i64 p.grade, .int .i64 p.load, .int .i64 p.pace.lo, .int .i64 p.pace.hi] 28 (0, 0)) from (hx013.block bp tP).trans hbp) t2 rfl
          exact ⟨(HOG.out b9 e3).trans h1, e1, e2⟩
        have HSG := Lib.hid hsG
        clear hsG hrF hqF
        go_region
        all_goals
          generalize hWH : World.drew _ = WH
          have edr : ∀ X : World, X.drew.heap = X.heap := fun _ => rfl
          have hrH : WH.heap[bR]? = some (.cells #[.int .i64 places, .slice (some ⟨g', 0, none⟩) lX.length cap'] 24 (0, 0)) := by rw [← hWH, edr]; simp [World.setCell, Array.getElem?_modify, hrG, hqG, n6, n7]
          have hqH : WH.heap[bQ]? = some (.cells #[.int .i64 p.grade, .int .i64 a1, .int .i64 a2, .int .i64 a3] 28 (0, 0)) := by rw [← hWH, edr]; simp [World.setCell, Array.getElem?_modify, hrG, hqG, n6, n7]
          have hoH : ∀ k, k ≠ bR → k ≠ bQ → WH.heap[k]? = WG.heap[k]? := fun k h1 h2 => by
            rw [← hWH, edr]
            iterate 6 rw [heap_set_other (by first | exact h1 | exact h2)]
          have hxH : Ext w WH := by
            rw [← hWH]
            refine Ext.drew ?_
            iterate 6 refine Ext.setCell ?_ (by first | exact lR | exact lQ) _
            exact hxG
          have hkH : ∀ (b : Nat) (c : Array Value) (t : TypeId) (f : Nat × Nat), W11.heap[b]? = some (.cells c t f) → t ≠ 24 → t ≠ 28 → WH.heap[b]? = W11.heap[b]? := fun b9 c9 t9 f9 h9 t1 t2 => by
            obtain ⟨h1, h2, h3⟩ := HSG.out b9 c9 t9 f9 h9 t1 t2
            rw [hoH b9 h2 h3, h1, h9]
          have hownH := owns_same HOWN11.out (W := WH) (fun k c f _ hb => hkH k c _ f hb (by decide) (by decide))
          have hinH : ∀ j x, lX[j]? = some x → ∃ A c, VX j = .slice A x.f5.length c ∧ Spns WH A (x.f5.map spnOf) := by
            intro j x9 hj
            have h3 := owns_same (HIN11.out j x9 hj) (W := WH) (fun k c f _ hb => hkH k c _ f hb (by decide) (by decide))
            obtain ⟨A9, c9, hV9, _, _⟩ := owns_slice h3
            rw [hV9] at h3
            exact ⟨A9, c9, hV9, spns_of_owns h3⟩
          have hspH : Spns WH Am (y.more.f5.map spnOf) := Sl.ext (spns_of HM.out) hxH
          obtain ⟨Bf, Cf, hpf⟩ := And.right (pths_push hownH hinH hspH)
          have rc0 : WH.cell? ⟨bR, 0, none⟩ = some (.int .i64 places) := by simp [World.cell?, hrH]
          have rc1 : WH.cell? ⟨bR, 1, none⟩ = some (.slice (some ⟨g', 0, none⟩) lX.length cap') := by simp [World.cell?, hrH]
          have qc0 : WH.cell? ⟨bQ, 0, none⟩ = some (.int .i64 p.grade) := by simp [World.cell?, hqH]
          have qc1 : WH.cell? ⟨bQ, 1, none⟩ = some (.int .i64 a1) := by simp [World.cell?, hqH]
          have qc2 : WH.cell? ⟨bQ, 2, none⟩ = some (.int .i64 a2) := by simp [World.cell?, hqH]
          have qc3 : WH.cell? ⟨bQ, 3, none⟩ = some (.int .i64 a3) := by simp [World.cell?, hqH]
          have HPF := Lib.hid hpf
          have HXH := Lib.hid hxH
          clear hWH hrH hqH hoH hxH hkH hownH hinH hspH hpf
          go_wp2
          refine bodyPost_ret (v := .tuple #[.agg #[.int .i64 places, .slice (some ⟨g', 0, none⟩) lX.length cap'], .agg #[.int .i64 p.grade, .int .i64 a1, .int .i64 a2, .int .i64 a3]]) (by simp [results, Try.results9, go_sem, rc0, rc1, qc0, qc1, qc2, qc3]) rfl ⟨some ⟨g', 0, none⟩, cap', Bf, Cf, ?_, ?_, HXH.out⟩
          · first
              | (rw [hlF.out, HA1.out, HA2.out, HA3.out]; done)
              | (rw [hlF.out, HA1.out, HA2.out, HA3.out]; simp; done)
          · rw [hlF.out]
            exact HPF.out
  · have hw : within y.path 0 ((l.length : Int) - 1) = false := by rw [Bool.eq_false_iff]; intro h; exact hP (by have := within_iff.1 h; omega)
    rw [hw] at hip
    have HIP := Lib.hid hip
    obtain ⟨lX, hlXe⟩ : ∃ lX, lX = l := ⟨_, rfl⟩
    obtain ⟨VX, hVXe⟩ : ∃ VX, VX = V := ⟨_, rfl⟩
    have HLX : Hid (easedB l y = lX) := Lib.hid (by rw [hlXe]; unfold easedB; rw [dif_neg hP])
    have hlX9 : lX.length ≤ 9 := by rw [hlXe]; exact hl
    clear hip hw hP hD
    refine HIP.out.mono ?_
    clear HIP
    rintro e w2 ⟨rfl, hx2⟩
    have hx0X := hx01.trans hx2
    have hmX : w2.heap[bm]? = some (.cells #[.int .i64 places, .slice D l.length cap] 24 (0, 0)) := (hx2.block bm hs1).trans hbm
    have hnx := HN1.out.ext hx2
    rw [← hlXe, ← hVXe] at hnx
    rw [← hlXe] at hmX
    have HNX := Lib.hid hnx
    clear hnx hlXe hVXe hx2 hbm HN1 hx01 hs1
    obtain ⟨i0, hi, hz0, hz1, hz2⟩ := info_parts L.info34
    obtain ⟨WA, hWA⟩ : ∃ WA, w2.alloc (.cells #[.int .i64 y.more.f0, .int .i64 y.more.f1, .int .i64 y.more.f2, .int .i64 y.more.f3.f0, .int .i64 y.more.f3.f1, .int .i64 y.more.f4.f0, .int .i64 y.more.f4.f1, .slice Am y.more.f5.length cm] 34) = WA := ⟨_, rfl⟩
    have hxA : Ext w2 WA := hWA ▸ (Ext.refl _).alloc _
    have hna : WA.heap[w2.heap.size]? = some (.cells #[.int .i64 y.more.f0, .int .i64 y.more.f1, .int .i64 y.more.f2, .int .i64 y.more.f3.f0, .int .i64 y.more.f3.f1, .int .i64 y.more.f4.f0, .int .i64 y.more.f4.f1, .slice Am y.more.f5.length cm] 34 (0, 0)) := by rw [← hWA]; exact heap_alloc_new _ _
    have hown := owns_pw HNX.out.own hxA
    have hbmX : bm < w2.heap.size := (Array.getElem?_eq_some_iff.1 hmX).1
    have hmA : WA.heap[bm]? = some (.cells #[.int .i64 places, .slice D lX.length cap] 24 (0, 0)) := (hxA.block bm hbmX).trans hmX
    have hx0A : Ext W0 WA := hx0X.trans hxA
    have hb10 : ∀ w10, WA.grownBy w10 (Value.slice D lX.length cap).ownBlock → w10.heap[bm]? = some (.cells #[.int .i64 places, .slice D lX.length cap] 24 (0, 0)) := fun w10 hg =>
      (hg.block bm (Array.getElem?_eq_some_iff.1 hmA).1 (fun e => by
        obtain ⟨_, _, c9, hc9⟩ := owns_lt hown e.symm
        exact block_ne_of_type hc9 hmA (by decide) rfl)).trans hmA
    have hbase : W0.heap.size ≤ WA.heap.size := hx0A.size
    have mEX : ∀ W9 j, Ext w2 W9 → W9.cell? ⟨bm, j, none⟩ = (#[.int .i64 places, .slice D lX.length cap] : Array Value)[j]? := fun W9 j h => by rw [h.cell (by simp; omega)]; simp [World.cell?, hmX]
    have HOWN := Lib.hid hown
    have HI := Lib.hid hi
    have HB10 := Lib.hid hb10
    have HMA := Lib.hid hmA
    clear hown hi hb10 hmA
    have hcap : lX.length + 1 ≤ maxLen := Nat.le_trans (show lX.length + 1 ≤ 10 by omega) (by decide)
    have HC := Lib.hid hcap
    clear hcap
    have yX : ∀ W9 j, Ext w2 W9 → W9.cell? ⟨bY, j, none⟩ = (#[.int .i64 y.later, .int .i64 y.pace, .int .i64 y.load, .int .i64 y.path, .int .i64 y.grade, .int .i64 y.snow, .int .i64 y.opens, .int .i64 y.more.f0, .int .i64 y.more.f1, .int .i64 y.more.f2, .int .i64 y.more.f3.f0, .int .i64 y.more.f3.f1, .int .i64 y.more.f4.f0, .int .i64 y.more.f4.f1, .slice Am y.more.f5.length cm] : Array Value)[j]? := fun W9 j h => yE W9 j (hx0X.trans h)
    have HYE := Lib.hid yE
    clear yE hc
    go_wp2_with (at_builtin; refine wpList_append_own _ rfl _ _ 22 rfl W0.heap.size 34 i0 (.agg #[.int .i64 0, .int .i64 0, .int .i64 0, .int .i64 0, .int .i64 0, .int .i64 0, .int .i64 0, .slice none 0 0]) 8 80 Try.underlying22 HI.out hz0 hz1 hz2 rfl (by decide) (.slice D lX.length cap) lX.length (pcells VX 0 lX) rfl HOWN.out ⟨w2.heap.size, 0, none⟩ 1 1 [.int .i64 y.more.f0, .int .i64 y.more.f1, .int .i64 y.more.f2, .int .i64 y.more.f3.f0, .int .i64 y.more.f3.f1, .int .i64 y.more.f4.f0, .int .i64 y.more.f4.f1, .slice Am y.more.f5.length cm] rfl rfl (World.news_of_block hna) (by simp [Value.oneCell']) HC.out (by omega) hbase ?_; intro v' w10 hown' hgr hnil; clear hnil; have n10 := HB10.out _ hgr; obtain ⟨g', cap', rfl, hg1, hg2⟩ := hown'.form (by omega); have nc0 : w10.cell? ⟨bm, 0, none⟩ = some (.int .i64 places) := (by simp [World.cell?, n10]); have nc10 : w10.cell? ⟨bm, 1, none⟩ = some (.slice D lX.length cap) := (by simp [World.cell?, n10]); have nz10 : ∀ j, w10.frozen? ⟨bm, j, none⟩ = false := (by intro j; simp [World.frozen?, n10]))
    have hown := HOWN.out
    have hgne : g' ≠ bm := by
      obtain ⟨_, _, c9, hc9⟩ := owns_lt hown' (g := g') rfl
      exact block_ne_of_type hc9 n10 (by decide)
    have hx010 : Ext W0 w10 := ⟨hgr.os.trans hx0A.os, hgr.tape.trans hx0A.tape, hgr.output.trans hx0A.output, Nat.le_trans hx0A.size hgr.size, fun k hk => (hgr.block k (Nat.lt_of_lt_of_le hk hx0A.size) (fun e => by have := (owns_lt hown e.symm).1; omega)).trans (hx0A.block k hk)⟩
    obtain ⟨W11, hW11⟩ : ∃ W11, w10.setCell ⟨bm, 1, none⟩ (.slice (some ⟨g', 0, none⟩) (lX.length + 1) cap') = W11 := ⟨_, rfl⟩
    rw [hW11]
    have hx011 : Ext W0 W11 := hW11 ▸ hx010.setCell (p := ⟨bm, 1, none⟩) hbm0 _
    have hm11 : W11.heap[bm]? = some (.cells #[.int .i64 places, .slice (some ⟨g', 0, none⟩) (lX.length + 1) cap'] 24 (0, 0)) := by rw [← hW11]; simp [World.setCell, Array.getElem?_modify, n10]
    have hin11' : ∀ j x, lX[j]? = some x → W11.ownsRow W0.heap.size 26 2 (VX j) x.f5.length (scells x.f5) := by
      intro j x9 hj
      have h1 := owns_pw (HNX.out.inn j x9 hj) hxA
      have h2 : w10.ownsRow W0.heap.size 26 2 (VX j) x9.f5.length (scells x9.f5) := h1.kept hgr (by
        rcases hob : (VX j).ownBlock with _ | k9
        · exact .inl rfl
        · refine .inr (fun e => ?_)
          obtain ⟨_, _, c9, hc9⟩ := owns_lt h1 hob
          obtain ⟨_, _, d9, hd9⟩ := owns_lt hown e.symm
          exact block_ne_of_type hc9 hd9 (by decide) rfl)
      have h3 := owns_store h2 (g := bm) (fun e => by
        obtain ⟨_, _, c9, hc9⟩ := owns_lt h2 e
        exact block_ne_of_type hc9 n10 (by decide) rfl) 1 (.slice (some ⟨g', 0, none⟩) (lX.length + 1) cap')
      rw [hW11] at h3
      exact h3
    have hin11 : ∀ j x, lX[j]? = some x → ∃ A c, VX j = .slice A x.f5.length c ∧ Spns W11 A (x.f5.map spnOf) := by
      intro j x9 hj
      have h3 := hin11' j x9 hj
      obtain ⟨A9, c9, hV9, _, _⟩ := owns_slice h3
      rw [hV9] at h3
      exact ⟨A9, c9, hV9, spns_of_owns h3⟩
    have hown11 := owns_store hown' (g := bm) (fun e => hgne (by simpa [Value.ownBlock] using e)) 1 (.slice (some ⟨g', 0, none⟩) (lX.length + 1) cap')
    rw [hW11] at hown11
    have hsp : Spns W11 Am (y.more.f5.map spnOf) := Sl.ext (spns_of HM.out) (hx0.trans hx011)
    obtain ⟨⟨B1, C1, hp1⟩, ⟨B2, C2, hp2⟩⟩ := pths_push hown11 hin11 hsp
    have HIN11 := Lib.hid hin11'
    have HOWN11 := Lib.hid hown11
    have hch := ref01_Check (ntOf places (lX ++ [y.more])) _ B1 C1 cap' W11 hp1
    simp only [vNt, ntOf, List.length_map, List.length_append, List.length_singleton] at hch
    have HCH := Lib.hid hch
    clear hch hp1 hp2 hsp hown11 hin11 hin11' hown hW11 hx010 hgne nz10 nc10 nc0 n10 hg2 hgr hown' HB10 HMA HOWN hWA hxA hna mEX yX hx0A hx0X hmX HNX hz0 hz1 hz2 HI hbase hbmX
    refine HCH.out.mono ?_
    clear HCH
    rintro e w12 ⟨rfl, hx12'⟩
    have hx012 : Ext W0 w12 := hx011.trans hx12'
    have hm12 : w12.heap[bm]? = some (.cells #[.int .i64 places, .slice (some ⟨g', 0, none⟩) (lX.length + 1) cap'] 24 (0, 0)) := (hx12'.block bm (Array.getElem?_eq_some_iff.1 hm11).1).trans hm11
    have hsame12 : ∀ (b : Nat) (c : Array Value) (t : TypeId) (f : Nat × Nat), W11.heap[b]? = some (.cells c t f) → t ≠ 24 → t ≠ 28 → w12.heap[b]? = some (.cells c t f) := fun b9 c9 t9 f9 h9 _ _ => (hx12'.block b9 (Array.getElem?_eq_some_iff.1 h9).1).trans h9
    have HSA12 := Lib.hid hsame12
    clear hsame12 hx12' hm11 hx011
    by_cases hv : netOk ⟨places, (lX ++ [y.more]).map pthOf⟩ = true
    · rw [hv, show okErr true 10 = 0 from rfl]
      have hlF : Hid (easedL places l y = lX ++ [y.more]) := Lib.hid (by unfold easedL; rw [HLX.out]; exact if_pos hv)
      have HOK12 := Lib.hid hv
      clear hv
      have hpF : w12.heap[bp]? = some (.cells #[.int .i64 p.grade, .int .i64 p.load, .int .i64 p.pace.lo, .int .i64 p.pace.hi] 28 (0, 0)) := (hx012.block bp tP).trans hbp
      have hrF : w12.heap[bR]? = some (.cells #[.int .i64 0, .slice none 0 0] 24 (0, 0)) := (hx012.block bR tR).trans hbr
      have hqF : w12.heap[bQ]? = some (.cells #[.int .i64 0, .int .i64 0, .int .i64 0, .int .i64 0] 28 (0, 0)) := (hx012.block bQ b5).trans hbq
      have p0 : w12.cell? ⟨bp, 0, none⟩ = some (.int .i64 p.grade) := by simp [World.cell?, hpF]
      have p1 : w12.cell? ⟨bp, 1, none⟩ = some (.int .i64 p.load) := by simp [World.cell?, hpF]
      have p2 : w12.cell? ⟨bp, 2, none⟩ = some (.int .i64 p.pace.lo) := by simp [World.cell?, hpF]
      have p3 : w12.cell? ⟨bp, 3, none⟩ = some (.int .i64 p.pace.hi) := by simp [World.cell?, hpF]
      have pz : ∀ j, w12.frozen? ⟨bp, j, none⟩ = false := by intro j; simp [World.frozen?, hpF]
      have y1c : w12.cell? ⟨bY, 1, none⟩ = some (.int .i64 y.pace) := (HYE.out w12 1 hx012).trans rfl
      have y2c : w12.cell? ⟨bY, 2, none⟩ = some (.int .i64 y.load) := (HYE.out w12 2 hx012).trans rfl
      have m0 : w12.cell? ⟨bm, 0, none⟩ = some (.int .i64 places) := by simp [World.cell?, hm12]
      have m1 : w12.cell? ⟨bm, 1, none⟩ = some (.slice (some ⟨g', 0, none⟩) (lX.length + 1) cap') := by simp [World.cell?, hm12]
      have r0 : w12.cell? ⟨bR, 0, none⟩ = some (.int .i64 0) := by simp [World.cell?, hrF]
      have r1 : w12.cell? ⟨bR, 1, none⟩ = some (.slice none 0 0) := by simp [World.cell?, hrF]
      have rz : ∀ j, w12.frozen? ⟨bR, j, none⟩ = false := by intro j; simp [World.frozen?, hrF]
      have q0 : w12.cell? ⟨bQ, 0, none⟩ = some (.int .i64 0) := by simp [World.cell?, hqF]
      have q1 : w12.cell? ⟨bQ, 1, none⟩ = some (.int .i64 0) := by simp [World.cell?, hqF]
      have q2 : w12.cell? ⟨bQ, 2, none⟩ = some (.int .i64 0) := by simp [World.cell?, hqF]
      have q3 : w12.cell? ⟨bQ, 3, none⟩ = some (.int .i64 0) := by simp [World.cell?, hqF]
      have qz : ∀ j, w12.frozen? ⟨bQ, j, none⟩ = false := by intro j; simp [World.frozen?, hqF]
      obtain ⟨pk1, ⟨pk2, pk3, pk4⟩, ⟨pk5, pk6⟩⟩ := partyOk_iff.1 HPK.out
      go_upto_region 14 with (fail)
      obtain ⟨a1, ha1⟩ : ∃ a1 : Int, a1 = max 0 (p.load - y.load) := ⟨_, rfl⟩
      obtain ⟨a2, ha2⟩ : ∃ a2 : Int, a2 = max 50 (p.pace.lo - y.pace) := ⟨_, rfl⟩
      obtain ⟨a3, ha3⟩ : ∃ a3 : Int, a3 = max 50 (p.pace.hi - y.pace) := ⟨_, rfl⟩
      rw [show (if y.load < p.load then p.load - y.load else 0) = a1 by rw [ha1]; split <;> omega, show (if 50 < p.pace.lo - y.pace then p.pace.lo - y.pace else 50) = a2 by rw [ha2]; split <;> omega, show (if 50 < p.pace.hi - y.pace then p.pace.hi - y.pace else 50) = a3 by rw [ha3]; split <;> omega]
      obtain ⟨WG, hWG⟩ : ∃ WG, ((w12.setCell ⟨bp, 1, none⟩ (.int .i64 a1)).setCell ⟨bp, 2, none⟩ (.int .i64 a2)).setCell ⟨bp, 3, none⟩ (.int .i64 a3) = WG := ⟨_, rfl⟩
      rw [hWG]
      have hoG : ∀ k, k ≠ bp → WG.heap[k]? = w12.heap[k]? := fun k hk => by rw [← hWG, heap_set_other (by exact hk), heap_set_other (by exact hk), heap_set_other (by exact hk)]
      have hpG : WG.heap[bp]? = some (.cells #[.int .i64 p.grade, .int .i64 a1, .int .i64 a2, .int .i64 a3] 28 (0, 0)) := by rw [← hWG]; simp [World.setCell, Array.getElem?_modify, hpF]
      have hxG : Ext w WG := hWG ▸ ((((hx0.trans hx012).setCell (p := ⟨bp, 1, none⟩) lP _).setCell (p := ⟨bp, 2, none⟩) lP _).setCell (p := ⟨bp, 3, none⟩) lP _)
      have hmG : WG.heap[bm]? = some (.cells #[.int .i64 places, .slice (some ⟨g', 0, none⟩) (lX.length + 1) cap'] 24 (0, 0)) := (hoG bm n3).trans hm12
      have hrG : WG.heap[bR]? = some (.cells #[.int .i64 0, .slice none 0 0] 24 (0, 0)) := (hoG bR n4).trans hrF
      have hqG : WG.heap[bQ]? = some (.cells #[.int .i64 0, .int .i64 0, .int .i64 0, .int .i64 0] 28 (0, 0)) := (hoG bQ n5).trans hqF
      have HA1 := Lib.hid ha1
      have HA2 := Lib.hid ha2
      have HA3 := Lib.hid ha3
      have HOG := Lib.hid hoG
      clear ha1 ha2 ha3 hoG hWG p0 p1 p2 p3 pz y1c y2c m0 m1 r0 r1 rz q0 q1 q2 q3 qz hpF hrF hqF pk1 pk2 pk3 pk4 pk5 pk6
      have p0 : WG.cell? ⟨bp, 0, none⟩ = some (.int .i64 p.grade) := by simp [World.cell?, hpG]
      have p1 : WG.cell? ⟨bp, 1, none⟩ = some (.int .i64 a1) := by simp [World.cell?, hpG]
      have p2 : WG.cell? ⟨bp, 2, none⟩ = some (.int .i64 a2) := by simp [World.cell?, hpG]
      have p3 : WG.cell? ⟨bp, 3, none⟩ = some (.int .i64 a3) := by simp [World.cell?, hpG]
      have m0 : WG.cell? ⟨bm, 0, none⟩ = some (.int .i64 places) := by simp [World.cell?, hmG]
      have m1 : WG.cell? ⟨bm, 1, none⟩ = some (.slice (some ⟨g', 0, none⟩) (lX.length + 1) cap') := by simp [World.cell?, hmG]
      have r0 : WG.cell? ⟨bR, 0, none⟩ = some (.int .i64 0) := by simp [World.cell?, hrG]
      have r1 : WG.cell? ⟨bR, 1, none⟩ = some (.slice none 0 0) := by simp [World.cell?, hrG]
      have rz : ∀ j, WG.frozen? ⟨bR, j, none⟩ = false := by intro j; simp [World.frozen?, hrG]
      have q0 : WG.cell? ⟨bQ, 0, none⟩ = some (.int .i64 0) := by simp [World.cell?, hqG]
      have q1 : WG.cell? ⟨bQ, 1, none⟩ = some (.int .i64 0) := by simp [World.cell?, hqG]
      have q2 : WG.cell? ⟨bQ, 2, none⟩ = some (.int .i64 0) := by simp [World.cell?, hqG]
      have q3 : WG.cell? ⟨bQ, 3, none⟩ = some (.int .i64 0) := by simp [World.cell?, hqG]
      have qz : ∀ j, WG.frozen? ⟨bQ, j, none⟩ = false := by intro j; simp [World.frozen?, hqG]
      have hrF := (HOG.out bR n4).symm.trans hrG
      have hqF := (HOG.out bQ n5).symm.trans hqG
      have hsG : ∀ (b : Nat) (c : Array Value) (t : TypeId) (f : Nat × Nat), W11.heap[b]? = some (.cells c t f) → t ≠ 24 → t ≠ 28 → WG.heap[b]? = some (.cells c t f) ∧ b ≠ bR ∧ b ≠ bQ := fun b9 c9 t9 f9 h9 t1 t2 => by
        have h1 := HSA12.out b9 c9 t9 f9 h9 t1 t2
        have e1 := block_ne_of_type h1 hrF t1
        have e2 := block_ne_of_type h1 hqF t2
        have e3 : b9 ≠ bp := by
          intro e
          have h2 := (HSA12.out b9 c9 t9 f9 h9 t1 t2)
          rw [e] at h2
          exact block_ne_of_type h2 (show w12.heap[bp]? = some (.cells #[.int .i64 p.grade, .int .i64 p.load, .int .i64 p.pace.lo, .int .i64 p.pace.hi] 28 (0, 0)) from (hx012.block bp tP).trans hbp) t2 rfl
        exact ⟨(HOG.out b9 e3).trans h1, e1, e2⟩
      have HSG := Lib.hid hsG
      clear hsG hrF hqF
      go_region
      all_goals
        generalize hWH : World.drew _ = WH
        have edr : ∀ X : World, X.drew.heap = X.heap := fun _ => rfl
        have hrH : WH.heap[bR]? = some (.cells #[.int .i64 places, .slice (some ⟨g', 0, none⟩) (lX.length + 1) cap'] 24 (0, 0)) := by rw [← hWH, edr]; simp [World.setCell, Array.getElem?_modify, hrG, hqG, n6, n7]
        have hqH : WH.heap[bQ]? = some (.cells #[.int .i64 p.grade, .int .i64 a1, .int .i64 a2, .int .i64 a3] 28 (0, 0)) := by rw [← hWH, edr]; simp [World.setCell, Array.getElem?_modify, hrG, hqG, n6, n7]
        have hoH : ∀ k, k ≠ bR → k ≠ bQ → WH.heap[k]? = WG.heap[k]? := fun k h1 h2 => by
          rw [← hWH, edr]
          iterate 6 rw [heap_set_other (by first | exact h1 | exact h2)]
        have hxH : Ext w WH := by
          rw [← hWH]
          refine Ext.drew ?_
          iterate 6 refine Ext.setCell ?_ (by first | exact lR | exact lQ) _
          exact hxG
        have hkH : ∀ (b : Nat) (c : Array Value) (t : TypeId) (f : Nat × Nat), W11.heap[b]? = some (.cells c t f) → t ≠ 24 → t ≠ 28 → WH.heap[b]? = W11.heap[b]? := fun b9 c9 t9 f9 h9 t1 t2 => by
          obtain ⟨h1, h2, h3⟩ := HSG.out b9 c9 t9 f9 h9 t1 t2
          rw [hoH b9 h2 h3, h1, h9]
        have hownH := owns_same HOWN11.out (W := WH) (fun k c f _ hb => hkH k c _ f hb (by decide) (by decide))
        have hinH : ∀ j x, lX[j]? = some x → ∃ A c, VX j = .slice A x.f5.length c ∧ Spns WH A (x.f5.map spnOf) := by
          intro j x9 hj
          have h3 := owns_same (HIN11.out j x9 hj) (W := WH) (fun k c f _ hb => hkH k c _ f hb (by decide) (by decide))
          obtain ⟨A9, c9, hV9, _, _⟩ := owns_slice h3
          rw [hV9] at h3
          exact ⟨A9, c9, hV9, spns_of_owns h3⟩
        have hspH : Spns WH Am (y.more.f5.map spnOf) := Sl.ext (spns_of HM.out) hxH
        obtain ⟨Bf, Cf, hpf⟩ := And.left (pths_push hownH hinH hspH)
        have rc0 : WH.cell? ⟨bR, 0, none⟩ = some (.int .i64 places) := by simp [World.cell?, hrH]
        have rc1 : WH.cell? ⟨bR, 1, none⟩ = some (.slice (some ⟨g', 0, none⟩) (lX.length + 1) cap') := by simp [World.cell?, hrH]
        have qc0 : WH.cell? ⟨bQ, 0, none⟩ = some (.int .i64 p.grade) := by simp [World.cell?, hqH]
        have qc1 : WH.cell? ⟨bQ, 1, none⟩ = some (.int .i64 a1) := by simp [World.cell?, hqH]
        have qc2 : WH.cell? ⟨bQ, 2, none⟩ = some (.int .i64 a2) := by simp [World.cell?, hqH]
        have qc3 : WH.cell? ⟨bQ, 3, none⟩ = some (.int .i64 a3) := by simp [World.cell?, hqH]
        have HPF := Lib.hid hpf
        have HXH := Lib.hid hxH
        clear hWH hrH hqH hoH hxH hkH hownH hinH hspH hpf
        go_wp2
        refine bodyPost_ret (v := .tuple #[.agg #[.int .i64 places, .slice (some ⟨g', 0, none⟩) (lX.length + 1) cap'], .agg #[.int .i64 p.grade, .int .i64 a1, .int .i64 a2, .int .i64 a3]]) (by simp [results, Try.results9, go_sem, rc0, rc1, qc0, qc1, qc2, qc3]) rfl ⟨some ⟨g', 0, none⟩, cap', Bf, Cf, ?_, ?_, HXH.out⟩
        · first
            | (rw [hlF.out, HA1.out, HA2.out, HA3.out]; done)
            | (rw [hlF.out, HA1.out, HA2.out, HA3.out]; simp; done)
        · rw [hlF.out]
          exact HPF.out
    · rw [Bool.not_eq_true] at hv
      rw [hv, show okErr false 10 = 10 from rfl]
      have hlF : Hid (easedL places l y = lX) := Lib.hid (by unfold easedL; rw [HLX.out]; exact if_neg (by show ¬ netOk ⟨places, (lX ++ [y.more]).map pthOf⟩ = true; rw [hv]; simp))
      have HOK12 := Lib.hid hv
      clear hv
      have hle : lX.length ≤ cap' := by
        rcases HOWN11.out.2 with ⟨h9, _⟩ | ⟨_, _, _, h9, _, _, h8, _⟩
        · cases h9
        · injection h9 with _ _ h9; omega
      have mc0 : w12.cell? ⟨bm, 0, none⟩ = some (.int .i64 places) := by simp [World.cell?, hm12]
      have mc1 : w12.cell? ⟨bm, 1, none⟩ = some (.slice (some ⟨g', 0, none⟩) (lX.length + 1) cap') := by simp [World.cell?, hm12]
      have mz : ∀ j, w12.frozen? ⟨bm, j, none⟩ = false := by intro j; simp [World.frozen?, hm12]
      go_upto_region 12 with (fail)
      obtain ⟨W13, hW13⟩ : ∃ W13, w12.setCell ⟨bm, 1, none⟩ (.slice (some ⟨g', 0, none⟩) lX.length cap') = W13 := ⟨_, rfl⟩
      rw [hW13]
      have hm13 : W13.heap[bm]? = some (.cells #[.int .i64 places, .slice (some ⟨g', 0, none⟩) lX.length cap'] 24 (0, 0)) := by rw [← hW13]; simp [World.setCell, Array.getElem?_modify, hm12]
      have hx013 : Ext W0 W13 := hW13 ▸ hx012.setCell (p := ⟨bm, 1, none⟩) hbm0 _
      have hsame13 : ∀ (b : Nat) (c : Array Value) (t : TypeId) (f : Nat × Nat), W11.heap[b]? = some (.cells c t f) → t ≠ 24 → t ≠ 28 → W13.heap[b]? = some (.cells c t f) := fun b9 c9 t9 f9 h9 t1 t2 => by
        have h1 := HSA12.out b9 c9 t9 f9 h9 t1 t2
        rw [← hW13, heap_set_other (by exact block_ne_of_type h1 hm12 t1)]
        exact h1
      have HSA13 := Lib.hid hsame13
      clear hsame13 hW13 mc0 mc1 mz hm12 hx012
      have hpF : W13.heap[bp]? = some (.cells #[.int .i64 p.grade, .int .i64 p.load, .int .i64 p.pace.lo, .int .i64 p.pace.hi] 28 (0, 0)) := (hx013.block bp tP).trans hbp
      have hrF : W13.heap[bR]? = some (.cells #[.int .i64 0, .slice none 0 0] 24 (0, 0)) := (hx013.block bR tR).trans hbr
      have hqF : W13.heap[bQ]? = some (.cells #[.int .i64 0, .int .i64 0, .int .i64 0, .int .i64 0] 28 (0, 0)) := (hx013.block bQ b5).trans hbq
      have p0 : W13.cell? ⟨bp, 0, none⟩ = some (.int .i64 p.grade) := by simp [World.cell?, hpF]
      have p1 : W13.cell? ⟨bp, 1, none⟩ = some (.int .i64 p.load) := by simp [World.cell?, hpF]
      have p2 : W13.cell? ⟨bp, 2, none⟩ = some (.int .i64 p.pace.lo) := by simp [World.cell?, hpF]
      have p3 : W13.cell? ⟨bp, 3, none⟩ = some (.int .i64 p.pace.hi) := by simp [World.cell?, hpF]
      have pz : ∀ j, W13.frozen? ⟨bp, j, none⟩ = false := by intro j; simp [World.frozen?, hpF]
      have y1c : W13.cell? ⟨bY, 1, none⟩ = some (.int .i64 y.pace) := (HYE.out W13 1 hx013).trans rfl
      have y2c : W13.cell? ⟨bY, 2, none⟩ = some (.int .i64 y.load) := (HYE.out W13 2 hx013).trans rfl
      have m0 : W13.cell? ⟨bm, 0, none⟩ = some (.int .i64 places) := by simp [World.cell?, hm13]
      have m1 : W13.cell? ⟨bm, 1, none⟩ = some (.slice (some ⟨g', 0, none⟩) lX.length cap') := by simp [World.cell?, hm13]
      have r0 : W13.cell? ⟨bR, 0, none⟩ = some (.int .i64 0) := by simp [World.cell?, hrF]
      have r1 : W13.cell? ⟨bR, 1, none⟩ = some (.slice none 0 0) := by simp [World.cell?, hrF]
      have rz : ∀ j, W13.frozen? ⟨bR, j, none⟩ = false := by intro j; simp [World.frozen?, hrF]
      have q0 : W13.cell? ⟨bQ, 0, none⟩ = some (.int .i64 0) := by simp [World.cell?, hqF]
      have q1 : W13.cell? ⟨bQ, 1, none⟩ = some (.int .i64 0) := by simp [World.cell?, hqF]
      have q2 : W13.cell? ⟨bQ, 2, none⟩ = some (.int .i64 0) := by simp [World.cell?, hqF]
      have q3 : W13.cell? ⟨bQ, 3, none⟩ = some (.int .i64 0) := by simp [World.cell?, hqF]
      have qz : ∀ j, W13.frozen? ⟨bQ, j, none⟩ = false := by intro j; simp [World.frozen?, hqF]
      obtain ⟨pk1, ⟨pk2, pk3, pk4⟩, ⟨pk5, pk6⟩⟩ := partyOk_iff.1 HPK.out
      go_upto_region 14 with (fail)
      obtain ⟨a1, ha1⟩ : ∃ a1 : Int, a1 = max 0 (p.load - y.load) := ⟨_, rfl⟩
      obtain ⟨a2, ha2⟩ : ∃ a2 : Int, a2 = max 50 (p.pace.lo - y.pace) := ⟨_, rfl⟩
      obtain ⟨a3, ha3⟩ : ∃ a3 : Int, a3 = max 50 (p.pace.hi - y.pace) := ⟨_, rfl⟩
      rw [show (if y.load < p.load then p.load - y.load else 0) = a1 by rw [ha1]; split <;> omega, show (if 50 < p.pace.lo - y.pace then p.pace.lo - y.pace else 50) = a2 by rw [ha2]; split <;> omega, show (if 50 < p.pace.hi - y.pace then p.pace.hi - y.pace else 50) = a3 by rw [ha3]; split <;> omega]
      obtain ⟨WG, hWG⟩ : ∃ WG, ((W13.setCell ⟨bp, 1, none⟩ (.int .i64 a1)).setCell ⟨bp, 2, none⟩ (.int .i64 a2)).setCell ⟨bp, 3, none⟩ (.int .i64 a3) = WG := ⟨_, rfl⟩
      rw [hWG]
      have hoG : ∀ k, k ≠ bp → WG.heap[k]? = W13.heap[k]? := fun k hk => by rw [← hWG, heap_set_other (by exact hk), heap_set_other (by exact hk), heap_set_other (by exact hk)]
      have hpG : WG.heap[bp]? = some (.cells #[.int .i64 p.grade, .int .i64 a1, .int .i64 a2, .int .i64 a3] 28 (0, 0)) := by rw [← hWG]; simp [World.setCell, Array.getElem?_modify, hpF]
      have hxG : Ext w WG := hWG ▸ ((((hx0.trans hx013).setCell (p := ⟨bp, 1, none⟩) lP _).setCell (p := ⟨bp, 2, none⟩) lP _).setCell (p := ⟨bp, 3, none⟩) lP _)
      have hmG : WG.heap[bm]? = some (.cells #[.int .i64 places, .slice (some ⟨g', 0, none⟩) lX.length cap'] 24 (0, 0)) := (hoG bm n3).trans hm13
      have hrG : WG.heap[bR]? = some (.cells #[.int .i64 0, .slice none 0 0] 24 (0, 0)) := (hoG bR n4).trans hrF
      have hqG : WG.heap[bQ]? = some (.cells #[.int .i64 0, .int .i64 0, .int .i64 0, .int .i64 0] 28 (0, 0)) := (hoG bQ n5).trans hqF
      have HA1 := Lib.hid ha1
      have HA2 := Lib.hid ha2
      have HA3 := Lib.hid ha3
      have HOG := Lib.hid hoG
      clear ha1 ha2 ha3 hoG hWG p0 p1 p2 p3 pz y1c y2c m0 m1 r0 r1 rz q0 q1 q2 q3 qz hpF hrF hqF pk1 pk2 pk3 pk4 pk5 pk6
      have p0 : WG.cell? ⟨bp, 0, none⟩ = some (.int .i64 p.grade) := by simp [World.cell?, hpG]
      have p1 : WG.cell? ⟨bp, 1, none⟩ = some (.int .i64 a1) := by simp [World.cell?, hpG]
      have p2 : WG.cell? ⟨bp, 2, none⟩ = some (.int .i64 a2) := by simp [World.cell?, hpG]
      have p3 : WG.cell? ⟨bp, 3, none⟩ = some (.int .i64 a3) := by simp [World.cell?, hpG]
      have m0 : WG.cell? ⟨bm, 0, none⟩ = some (.int .i64 places) := by simp [World.cell?, hmG]
      have m1 : WG.cell? ⟨bm, 1, none⟩ = some (.slice (some ⟨g', 0, none⟩) lX.length cap') := by simp [World.cell?, hmG]
      have r0 : WG.cell? ⟨bR, 0, none⟩ = some (.int .i64 0) := by simp [World.cell?, hrG]
      have r1 : WG.cell? ⟨bR, 1, none⟩ = some (.slice none 0 0) := by simp [World.cell?, hrG]
      have rz : ∀ j, WG.frozen? ⟨bR, j, none⟩ = false := by intro j; simp [World.frozen?, hrG]
      have q0 : WG.cell? ⟨bQ, 0, none⟩ = some (.int .i64 0) := by simp [World.cell?, hqG]
      have q1 : WG.cell? ⟨bQ, 1, none⟩ = some (.int .i64 0) := by simp [World.cell?, hqG]
      have q2 : WG.cell? ⟨bQ, 2, none⟩ = some (.int .i64 0) := by simp [World.cell?, hqG]
      have q3 : WG.cell? ⟨bQ, 3, none⟩ = some (.int .i64 0) := by simp [World.cell?, hqG]
      have qz : ∀ j, WG.frozen? ⟨bQ, j, none⟩ = false := by intro j; simp [World.frozen?, hqG]
      have hrF := (HOG.out bR n4).symm.trans hrG
      have hqF := (HOG.out bQ n5).symm.trans hqG
      have hsG : ∀ (b : Nat) (c : Array Value) (t : TypeId) (f : Nat × Nat), W11.heap[b]? = some (.cells c t f) → t ≠ 24 → t ≠ 28 → WG.heap[b]? = some (.cells c t f) ∧ b ≠ bR ∧ b ≠ bQ := fun b9 c9 t9 f9 h9 t1 t2 => by
        have h1 := HSA13.out b9 c9 t9 f9 h9 t1 t2
        have e1 := block_ne_of_type h1 hrF t1
        have e2 := block_ne_of_type h1 hqF t2
        have e3 : b9 ≠ bp := by
          intro e
          have h2 := (HSA13.out b9 c9 t9 f9 h9 t1 t2)
          rw [e] at h2
          exact block_ne_of_type h2 (show W13.heap[bp]? = some (.cells #[.int .i64 p.grade, .int .i64 p.load, .int .i64 p.pace.lo, .int .i64 p.pace.hi] 28 (0, 0)) from (hx013.block bp tP).trans hbp) t2 rfl
        exact ⟨(HOG.out b9 e3).trans h1, e1, e2⟩
      have HSG := Lib.hid hsG
      clear hsG hrF hqF
      go_region
      all_goals
        generalize hWH : World.drew _ = WH
        have edr : ∀ X : World, X.drew.heap = X.heap := fun _ => rfl
        have hrH : WH.heap[bR]? = some (.cells #[.int .i64 places, .slice (some ⟨g', 0, none⟩) lX.length cap'] 24 (0, 0)) := by rw [← hWH, edr]; simp [World.setCell, Array.getElem?_modify, hrG, hqG, n6, n7]
        have hqH : WH.heap[bQ]? = some (.cells #[.int .i64 p.grade, .int .i64 a1, .int .i64 a2, .int .i64 a3] 28 (0, 0)) := by rw [← hWH, edr]; simp [World.setCell, Array.getElem?_modify, hrG, hqG, n6, n7]
        have hoH : ∀ k, k ≠ bR → k ≠ bQ → WH.heap[k]? = WG.heap[k]? := fun k h1 h2 => by
          rw [← hWH, edr]
          iterate 6 rw [heap_set_other (by first | exact h1 | exact h2)]
        have hxH : Ext w WH := by
          rw [← hWH]
          refine Ext.drew ?_
          iterate 6 refine Ext.setCell ?_ (by first | exact lR | exact lQ) _
          exact hxG
        have hkH : ∀ (b : Nat) (c : Array Value) (t : TypeId) (f : Nat × Nat), W11.heap[b]? = some (.cells c t f) → t ≠ 24 → t ≠ 28 → WH.heap[b]? = W11.heap[b]? := fun b9 c9 t9 f9 h9 t1 t2 => by
          obtain ⟨h1, h2, h3⟩ := HSG.out b9 c9 t9 f9 h9 t1 t2
          rw [hoH b9 h2 h3, h1, h9]
        have hownH := owns_same HOWN11.out (W := WH) (fun k c f _ hb => hkH k c _ f hb (by decide) (by decide))
        have hinH : ∀ j x, lX[j]? = some x → ∃ A c, VX j = .slice A x.f5.length c ∧ Spns WH A (x.f5.map spnOf) := by
          intro j x9 hj
          have h3 := owns_same (HIN11.out j x9 hj) (W := WH) (fun k c f _ hb => hkH k c _ f hb (by decide) (by decide))
          obtain ⟨A9, c9, hV9, _, _⟩ := owns_slice h3
          rw [hV9] at h3
          exact ⟨A9, c9, hV9, spns_of_owns h3⟩
        have hspH : Spns WH Am (y.more.f5.map spnOf) := Sl.ext (spns_of HM.out) hxH
        obtain ⟨Bf, Cf, hpf⟩ := And.right (pths_push hownH hinH hspH)
        have rc0 : WH.cell? ⟨bR, 0, none⟩ = some (.int .i64 places) := by simp [World.cell?, hrH]
        have rc1 : WH.cell? ⟨bR, 1, none⟩ = some (.slice (some ⟨g', 0, none⟩) lX.length cap') := by simp [World.cell?, hrH]
        have qc0 : WH.cell? ⟨bQ, 0, none⟩ = some (.int .i64 p.grade) := by simp [World.cell?, hqH]
        have qc1 : WH.cell? ⟨bQ, 1, none⟩ = some (.int .i64 a1) := by simp [World.cell?, hqH]
        have qc2 : WH.cell? ⟨bQ, 2, none⟩ = some (.int .i64 a2) := by simp [World.cell?, hqH]
        have qc3 : WH.cell? ⟨bQ, 3, none⟩ = some (.int .i64 a3) := by simp [World.cell?, hqH]
        have HPF := Lib.hid hpf
        have HXH := Lib.hid hxH
        clear hWH hrH hqH hoH hxH hkH hownH hinH hspH hpf
        go_wp2
        refine bodyPost_ret (v := .tuple #[.agg #[.int .i64 places, .slice (some ⟨g', 0, none⟩) lX.length cap'], .agg #[.int .i64 p.grade, .int .i64 a1, .int .i64 a2, .int .i64 a3]]) (by simp [results, Try.results9, go_sem, rc0, rc1, qc0, qc1, qc2, qc3]) rfl ⟨some ⟨g', 0, none⟩, cap', Bf, Cf, ?_, ?_, HXH.out⟩
        · first
            | (rw [hlF.out, HA1.out, HA2.out, HA3.out]; done)
            | (rw [hlF.out, HA1.out, HA2.out, HA3.out]; simp; done)
        · rw [hlF.out]
          exact HPF.out
end Go.Proofs.Ytnjlpkdpmbpblaa
