/- Walk: bivouaclaw01.PathsEasier returns true. Conditions: the slices read as lists. -/
import Derived.Test.YtnjlpkdpmbpblaaLaw01P
import Derived.Test.YtnjlpkdpmbpblaaLaw01A
import Derived.Test.YtnjlpkdpmbpblaaLaw01W
set_option linter.unusedVariables false
set_option linter.unusedSimpArgs false
namespace Go.Proofs.Ytnjlpkdpmbpblaa
open Go.RowKit Go.Shelf Go.Sort Go.Proofs.YtnjlpkdpmbpblaaW.PrintWords
attribute [local go_sem] Oper.semAt_some
/-- what the law looks at -/
structure InEase (n : Nt) (y : Eas) : Prop where
  len : n.paths.length ≤ 9
  l1 : 0 ≤ y.later
  l2 : y.later ≤ 2880
  p1 : 0 ≤ y.pace
  p2 : y.pace ≤ 300
  w1 : 0 ≤ y.load
  w2 : y.load ≤ 100
  g1 : 0 ≤ y.grade
  g2 : y.grade ≤ 10
  s1 : 0 ≤ y.snow
  s2 : y.snow ≤ 100
  o : y.more.f5.length ≤ 20
theorem row_told {w w' : World} {b k : Nat} {l : List Int} (h : Row w b (toldL l)) (hk : k < l.length) (e : Ext w w') : w'.cell? ⟨b, k, none⟩ = some (.int .i64 (told1 (nth l k))) := by
  have h1 := (h.ext e).cell (i := k) (by rw [toldL_length]; exact hk)
  rwa [nth_toldL hk] at h1
set_option maxRecDepth 100000 in
set_option maxHeartbeats 8000000 in
theorem law01_easier (places : Int) (l : List PathS) (p : Pty) (x : Trp) (y : Eas) (A Ar Am : Option Addr) (c lr cr cm : Nat) (w : World) (hr : Kd.C L.k34 w A l.length l) (hc : l.length ≤ c) (hm : Kd.C L.k26 w Am y.more.f5.length y.more.f5) :
    Calls Try.prog 3 #[.agg #[.int .i64 places, .slice A l.length c], vPty p, vTrp x Ar lr cr, vEas y Am cm] w fun e w' => e = .returned (.bool true) ∧ Below w.heap.size w w' := by
  obtain ⟨n, hnn⟩ : ∃ n, n = ntOf places l := ⟨_, rfl⟩
  have hnl : n.paths.length = l.length := by rw [hnn]; simp [ntOf]
  have hnp : n.places = places := by rw [hnn]; rfl
  dsimp only [vPty, vTrp, vEas]
  obtain ⟨W0, hW0⟩ : ∃ W0, (((w.alloc (.cells #[.int .i64 places, .slice A l.length c] 24)).alloc (.cells #[.int .i64 p.grade, .int .i64 p.load, .int .i64 p.pace.lo, .int .i64 p.pace.hi] 28)).alloc (.cells #[.int .i64 x.frm, .int .i64 x.dst, .int .i64 x.start, .int .i64 x.dead, .slice Ar lr cr, .int .i64 x.path] 31)).alloc (.cells #[.int .i64 y.later, .int .i64 y.pace, .int .i64 y.load, .int .i64 y.path, .int .i64 y.grade, .int .i64 y.snow, .int .i64 y.opens, .int .i64 y.more.f0, .int .i64 y.more.f1, .int .i64 y.more.f2, .int .i64 y.more.f3.f0, .int .i64 y.more.f3.f1, .int .i64 y.more.f4.f0, .int .i64 y.more.f4.f1, .slice Am y.more.f5.length cm] 36) = W0 := ⟨_, rfl⟩
  have hw0 : Ext w W0 := hW0 ▸ ((((Ext.refl w).alloc _).alloc _).alloc _).alloc _
  have b : ∀ W9 j, Ext W0 W9 → W9.cell? ⟨w.heap.size, j, none⟩ = (#[.int .i64 places, .slice A l.length c] : Array Value)[j]? := fun W9 j h => by rw [h.cell (by rw [← hW0]; simp only [World.size_alloc]; omega), ← hW0]; simp [go_sem]
  have d : ∀ W9 j, Ext W0 W9 → W9.cell? ⟨w.heap.size + 1, j, none⟩ = (#[.int .i64 p.grade, .int .i64 p.load, .int .i64 p.pace.lo, .int .i64 p.pace.hi] : Array Value)[j]? := fun W9 j h => by rw [h.cell (by rw [← hW0]; simp only [World.size_alloc]; omega), ← hW0]; simp [go_sem]
  have f : ∀ W9 j, Ext W0 W9 → W9.cell? ⟨w.heap.size + 1 + 1, j, none⟩ = (#[.int .i64 x.frm, .int .i64 x.dst, .int .i64 x.start, .int .i64 x.dead, .slice Ar lr cr, .int .i64 x.path] : Array Value)[j]? := fun W9 j h => by rw [h.cell (by rw [← hW0]; simp only [World.size_alloc]; omega), ← hW0]; simp [go_sem]
  have g : ∀ W9 j, Ext W0 W9 → W9.cell? ⟨w.heap.size + 1 + 1 + 1, j, none⟩ = (#[.int .i64 y.later, .int .i64 y.pace, .int .i64 y.load, .int .i64 y.path, .int .i64 y.grade, .int .i64 y.snow, .int .i64 y.opens, .int .i64 y.more.f0, .int .i64 y.more.f1, .int .i64 y.more.f2, .int .i64 y.more.f3.f0, .int .i64 y.more.f3.f1, .int .i64 y.more.f4.f0, .int .i64 y.more.f4.f1, .slice Am y.more.f5.length cm] : Array Value)[j]? := fun W9 j h => by rw [h.cell (by rw [← hW0]; simp only [World.size_alloc]; omega), ← hW0]; simp [go_sem]
  have hfits : ∃ B C, Pths W0 A B C n.paths := by
    obtain ⟨B, C, hp⟩ := pths_of hr
    exact ⟨B, C, by rw [hnn]; exact hp.ext hw0⟩
  obtain ⟨B, C, hp0⟩ := hfits
  have hfit := law01_fits n p x A Ar B C c lr cr W0 hp0
  simp only [vNt, vPty, vTrp, hnl, hnp] at hfit
  have HF := Lib.hid hfit
  have HP0 := Lib.hid hp0
  have HNN := Lib.hid hnn
  have HNL := Lib.hid hnl
  have HNP := Lib.hid hnp
  have HR := Lib.hid hr
  have HM := Lib.hid hm
  clear hfit hp0 hnn hnl hnp hr hm
  by_cases hb : fitsB n p x = true
  · have HFT := Lib.hid hb
    clear hb
    go_enter Try.func3, Try.ntmps3
    go_wp2_with fail
    refine HF.out.mono ?_
    clear HF
    rintro e w1 ⟨rfl, hx1⟩
    rw [HFT.out]
    by_cases hG : InEase n y
    · have HIN := Lib.hid hG
      obtain ⟨i1, i2, i3, i4, i5, i6, i7, i8, i9, i10, i11, i12⟩ := hG
      rw [HNL.out] at i1
      have e0b : decide ((9 : Int) < (l.length : Int)) = false := by simp; omega
      have e11b : decide ((20 : Int) < (y.more.f5.length : Int)) = false := by simp; omega
      have hfit := HFT.out
      simp only [fitsB, Bool.and_eq_true, Bool.not_eq_true', beq_iff_eq] at hfit
      obtain ⟨_, hnp0, hfrm, hdst, hstart, _⟩ := hfit
      obtain ⟨hok, hpk⟩ := npErr_zero.1 hnp0
      have hf := within_iff.1 hfrm
      have hs := within_iff.1 hstart
      clear hnp0 hfrm hdst hstart
      have hNp : (n.places.toNat : Int) = places := by rw [← HNP.out]; omega
      obtain ⟨N, hN⟩ : ∃ N, N = n.places.toNat := ⟨_, rfl⟩
      rw [← hN] at hNp
      have hAr : ∀ W, Ext W0 W → ∀ s : Int, 0 ≤ s ∧ s ≤ 2880 → Calls Try.prog 8 #[.agg #[.int .i64 places, .slice A l.length c], .agg #[.int .i64 p.grade, .int .i64 p.load, .int .i64 p.pace.lo, .int .i64 p.pace.hi], .int .i64 x.frm, .int .i64 s] W fun e w' => ∃ b1 b2 l1, e = .returned (.tuple #[.slice (some ⟨b1, 0, none⟩) N N, .slice (some ⟨b2, 0, none⟩) N N, .int .i64 0]) ∧
          Row w' b1 (toldL l1) ∧ Arr n p true (-1) x.frm s l1 ∧ Ext W w' := fun W hW s hs => by
        have h1 := paths_Arrive n p x.frm s A B C c W (HP0.out.ext hW) hok hpk hf hs
        simp only [vNt, vPty, HNL.out, HNP.out] at h1
        refine h1.mono ?_
        rintro e w' ⟨b1, b2, l1, l2, rfl, hr1, _, ha1, ha2, hx, _⟩
        rw [ha1.length, ha2.length, ← hN]
        exact ⟨b1, b2, l1, rfl, hr1, ha1, hx⟩
      have HAR := Lib.hid hAr
      have HOK := Lib.hid hok
      have HPK := Lib.hid hpk
      have HNV := Lib.hid hN
      clear hAr hok hpk hN
      obtain ⟨s1, s2⟩ := hs
      obtain ⟨f1, f2⟩ := hf
      go_wp2_with fail
      refine (HAR.out _ hx1 x.start ⟨s1, s2⟩).mono ?_
      rintro e w2 ⟨bs, bs2, L1, rfl, hr1, ha1, hx2⟩
      have hx02 := hx1.trans hx2
      have HR1 := Lib.hid hr1
      have HA1 := Lib.hid ha1
      clear hr1 ha1 hx2
      have hmin : (if x.start + y.later < 2880 then x.start + y.later else 2880) = min 2880 (x.start + y.later) := by split <;> omega
      obtain ⟨st, hst⟩ : ∃ st : Int, min 2880 (x.start + y.later) = st := ⟨_, rfl⟩
      rw [hst] at hmin
      have hst2 : x.start ≤ st ∧ 0 ≤ st ∧ st ≤ 2880 := by omega
      obtain ⟨st1, st2, st3⟩ := hst2
      clear hst
      go_wp2_with fail
      refine (HAR.out _ hx02 st ⟨st2, st3⟩).mono ?_
      rintro e w3 ⟨bl, bl2, L2, rfl, hr2, ha2, hx3⟩
      have hx03 := hx02.trans hx3
      have HR1b := Lib.hid (HR1.out.ext hx3)
      have HR2 := Lib.hid hr2
      have HA2 := Lib.hid ha2
      have HST := Lib.hid st1
      clear hr2 ha2 hx3 HR1 hmin st1
      have heas := law01_eased places l p y A Am c cm w3 (Kd.C_below HR.out (hw0.trans hx03)) hc (Kd.C_below HM.out (hw0.trans hx03)) (by rw [← HNN.out]; exact HOK.out) HPK.out ⟨i4, i5⟩ ⟨i6, i7⟩ ⟨i8, i9⟩ ⟨i10, i11⟩ i12 i1
      dsimp only [vPty, vEas] at heas
      have HE := Lib.hid heas
      clear heas
      go_wp2_with fail
      refine HE.out.mono ?_
      clear HE
      rintro e w4 ⟨A', c', B', C', rfl, hp4, hx4⟩
      obtain ⟨lm, hlm⟩ : ∃ lm, easedL places l y = lm := ⟨_, rfl⟩
      rw [hlm] at hp4 ⊢
      obtain ⟨qd, hqd⟩ : ∃ qd, max 0 (p.load - y.load) = qd := ⟨_, rfl⟩
      obtain ⟨qa, hqa⟩ : ∃ qa, max 50 (p.pace.lo - y.pace) = qa := ⟨_, rfl⟩
      obtain ⟨qb, hqb⟩ : ∃ qb, max 50 (p.pace.hi - y.pace) = qb := ⟨_, rfl⟩
      rw [hqd, hqa, hqb]
      have hQ : easedP p y = ⟨p.grade, qd, ⟨qa, qb⟩⟩ := by unfold easedP; rw [hqd, hqa, hqb]
      have hx04 := hx03.trans hx4
      have HR1c := Lib.hid (HR1b.out.ext hx4)
      have HR2b := Lib.hid (HR2.out.ext hx4)
      have HLM := Lib.hid hlm
      have HQ := Lib.hid hQ
      clear HR1b HR2 hx4 hlm hqd hqa hqb hQ
      obtain ⟨W5, hW5⟩ : ∃ W5, (w4.alloc (.cells #[.int .i64 places, .slice A' lm.length c'] 24)).alloc (.cells #[.int .i64 p.grade, .int .i64 qd, .int .i64 qa, .int .i64 qb] 28) = W5 := ⟨_, rfl⟩
      have hx5 : Ext w4 W5 := hW5 ▸ ((Ext.refl w4).alloc _).alloc _
      have u : ∀ W9 j, Ext W5 W9 → W9.cell? ⟨w4.heap.size, j, none⟩ = (#[.int .i64 places, .slice A' lm.length c'] : Array Value)[j]? := fun W9 j h => by rw [h.cell (by rw [← hW5]; simp only [World.size_alloc]; omega), ← hW5]; simp [go_sem]
      have v : ∀ W9 j, Ext W5 W9 → W9.cell? ⟨w4.heap.size + 1, j, none⟩ = (#[.int .i64 p.grade, .int .i64 qd, .int .i64 qa, .int .i64 qb] : Array Value)[j]? := fun W9 j h => by rw [h.cell (by rw [← hW5]; simp only [World.size_alloc]; omega), ← hW5]; simp [go_sem]
      have hx05 := hx04.trans hx5
      have hy : 0 ≤ y.grade ∧ 0 ≤ y.snow := ⟨i8, i10⟩
      have hokm : netOk (ntOf places lm) = true := by rw [← HLM.out]; exact easedL_ok hy (by rw [← HNN.out]; exact HOK.out)
      have hpkq : partyOk ⟨p.grade, qd, ⟨qa, qb⟩⟩ = true := by rw [← HQ.out]; exact easedP_ok HPK.out i4 i6
      have hfm : 0 ≤ x.frm ∧ x.frm ≤ (ntOf places lm).places - 1 := by show 0 ≤ x.frm ∧ x.frm ≤ places - 1; rw [← HNP.out]; exact ⟨f1, f2⟩
      have hA3 := paths_Arrive (ntOf places lm) ⟨p.grade, qd, ⟨qa, qb⟩⟩ x.frm x.start A' B' C' c' W5 (hp4.ext hx5) hokm hpkq hfm ⟨s1, s2⟩
      have hplm : (ntOf places lm).paths.length = lm.length := by simp [ntOf]
      have hNm : (ntOf places lm).places.toNat = N := by show places.toNat = N; omega
      simp only [vNt, vPty, hplm] at hA3
      have HA3 := Lib.hid hA3
      have HOKM := Lib.hid hokm
      have HPKQ := Lib.hid hpkq
      have HNM := Lib.hid hNm
      have HHY := Lib.hid hy
      clear hA3 hokm hpkq hfm hplm hNm hy hp4
      go_wp2_with fail
      refine HA3.out.mono ?_
      clear HA3 hW5
      rintro e w6 ⟨be, be2, L3, L3b, rfl, hr3, _, ha3, ha3b, hx6, _⟩
      have e3 := ha3.length
      rw [HNM.out] at e3
      have e3b := ha3b.length
      rw [HNM.out] at e3b
      rw [e3, e3b]
      have hx06 := hx05.trans hx6
      have hx46 := hx5.trans hx6
      have HR1d := Lib.hid (HR1c.out.ext hx46)
      have HR2c := Lib.hid (HR2b.out.ext hx46)
      have HR3 := Lib.hid hr3
      have HA3 := Lib.hid ha3
      have HE3 := Lib.hid e3
      have hx6o : Ext w6 w6 := Ext.refl _
      clear HR1c HR2b hr3 ha3 ha3b e3 e3b hx46 hx05 hx04 hx03 hx02 hx1 u v hx5 hx6
      have hN12 : N ≤ 12 := by have h9 := (netOk_iff.1 HOK.out).1.2; rw [HNV.out]; omega
      have hNb : ((N : Int) != places) = false := by rw [hNp]; simp
      go_wp2_with fail
      go_loopw [20] (fun v wr => ∃ k : Nat, k ≤ N ∧ v = .int .i64 k ∧ Ext w6 wr) (fun v _ => N - (intOf v).toNat)
      case atStart => exact ⟨0, Nat.zero_le _, rfl, Ext.refl _⟩
      case round =>
        obtain ⟨k, hk, rfl, hxr⟩ := hrel
        obtain ⟨wo, rfl⟩ : ∃ wo : World, wo = wr := ⟨_, rfl⟩
        have hx0r := hx06.trans hxr
        by_cases hlt : k < N
        · have hkI : (k : Int) < places := by omega
          have hk1 : k < L1.length := by rw [HA1.out.length, ← HNV.out]; exact hlt
          have hk2 : k < L2.length := by rw [HA2.out.length, ← HNV.out]; exact hlt
          have hk3 : k < L3.length := by rw [HE3.out]; exact hlt
          have hkn : k < n.places.toNat := by rw [← HNV.out]; exact hlt
          have hst := HST.out
          have hle12 := later_le HOK.out HPK.out ⟨f1, f2⟩ ⟨s1, s2⟩ ⟨st2, st3⟩ hst HA1.out HA2.out k hkn
          have hnm : n.paths.length ≤ (ntOf places lm).paths.length := by
            simp only [ntOf, List.length_map]
            rw [HNL.out, ← HLM.out]
            exact easedL_length
          have hEa : ∀ i, i < n.paths.length → Easier (nth n.paths i) (nth (ntOf places lm).paths i) := fun i hi => by
            rw [HNL.out] at hi
            have h9 := easedL_easier (places := places) (l := l) (y := y) HHY.out (by rw [← HNN.out]; exact HOK.out) i hi
            rw [HLM.out, ← HNN.out] at h9
            exact h9
          have hqq := HQ.out
          have hql : qd ≤ p.load := by
            have h9 : (easedP p y).load = qd := by rw [hqq]
            have h8 := (partyOk_iff.1 HPK.out).2.2
            rw [← h9]
            show max 0 (p.load - y.load) ≤ p.load
            omega
          have hqh : qb ≤ p.pace.hi := by
            have h9 : (easedP p y).pace.hi = qb := by rw [hqq]
            have h8 := (partyOk_iff.1 HPK.out).2.1
            rw [← h9]
            show max 50 (p.pace.hi - y.pace) ≤ p.pace.hi
            omega
          have hle13 := easier_le (n := n) (m := ntOf places lm) (p := p) (q := ⟨p.grade, qd, ⟨qa, qb⟩⟩) HOK.out HOKM.out HPK.out HPKQ.out (by rw [HNP.out]; rfl) hnm hEa rfl hql hqh ⟨f1, f2⟩ ⟨s1, s2⟩ HA1.out HA3.out k hkn
          have hg1 := arr_top HOK.out HPK.out ⟨f1, f2⟩ ⟨s1, s2⟩ HA1.out
          have hg2 := arr_top HOK.out HPK.out ⟨f1, f2⟩ ⟨st2, st3⟩ HA2.out
          have hg3 := arr_top HOKM.out HPKQ.out (by show 0 ≤ x.frm ∧ x.frm ≤ places - 1; rw [← HNP.out]; exact ⟨f1, f2⟩) ⟨s1, s2⟩ HA3.out
          have ht12 := told_le (hg1.2.1 k hk1) (hg2.2.2 k hk2) hle12
          have ht13 := told_le (hg3.2.1 k hk3) (hg1.2.2 k hk1) hle13
          have cS : ∀ W9, Ext wo W9 → W9.cell? ⟨bs, k, none⟩ = some (.int .i64 (told1 (nth L1 k))) := fun W9 h => row_told HR1d.out hk1 (hx6o.trans (hxr.trans h))
          have cL : ∀ W9, Ext wo W9 → W9.cell? ⟨bl, k, none⟩ = some (.int .i64 (told1 (nth L2 k))) := fun W9 h => row_told HR2c.out hk2 (hx6o.trans (hxr.trans h))
          have cE : ∀ W9, Ext wo W9 → W9.cell? ⟨be, k, none⟩ = some (.int .i64 (told1 (nth L3 k))) := fun W9 h => row_told HR3.out hk3 (hx6o.trans (hxr.trans h))
          generalize told1 (nth L1 k) = sv at *
          generalize told1 (nth L2 k) = lv at *
          generalize told1 (nth L3 k) = ev at *
          clear hg1 hg2 hg3 hle12 hle13 hEa hnm hql hqh hqq hk1 hk2 hk3 hkn hst
          by_cases hl0 : 0 ≤ lv
          · obtain ⟨t1, t2⟩ := ht12 hl0
            obtain ⟨t3, t4⟩ := ht13 t1
            clear ht12 ht13
            have d1 : decide (0 ≤ lv) = true := decide_eq_true hl0
            have d2 : decide (sv < 0) = false := decide_eq_false (by omega)
            have d3 : decide (lv < sv) = false := decide_eq_false (by omega)
            have d4 : decide (0 ≤ sv) = true := decide_eq_true t1
            have d5 : decide (ev < 0) = false := decide_eq_false (by omega)
            have d6 : decide (sv < ev) = false := decide_eq_false (by omega)
            go_wp2
            go_quiet (fail)
            go_wp2
            go_roundw
            case rel =>
              exact ⟨k + 1, by omega, by go_num, hxr.trans ((Ext.refl _).drewN _)⟩
            case measure => simp [intOf]; omega
          · have hl1 : lv < 0 := by omega
            by_cases hs0 : 0 ≤ sv
            · obtain ⟨t3, t4⟩ := ht13 hs0
              clear ht12 ht13 hl0
              have d1 : decide (0 ≤ lv) = false := decide_eq_false (by omega)
              have d4 : decide (0 ≤ sv) = true := decide_eq_true hs0
              have d5 : decide (ev < 0) = false := decide_eq_false (by omega)
              have d6 : decide (sv < ev) = false := decide_eq_false (by omega)
              go_wp2
              go_quiet (fail)
              go_wp2
              go_roundw
              case rel => exact ⟨k + 1, by omega, by go_num, hxr.trans ((Ext.refl _).drewN _)⟩
              case measure => simp [intOf]; omega
            · have hs1 : sv < 0 := by omega
              clear ht12 ht13 hl0 hs0
              have d1 : decide (0 ≤ lv) = false := decide_eq_false (by omega)
              have d4 : decide (0 ≤ sv) = false := decide_eq_false (by omega)
              go_wp2
              go_quiet (fail)
              go_wp2
              go_roundw
              case rel => exact ⟨k + 1, by omega, by go_num, hxr.trans ((Ext.refl _).drewN _)⟩
              case measure => simp [intOf]; omega
        · have hk' : k = N := by omega
          have hkI : ¬ (k : Int) < places := by omega
          subst hk'
          go_wp2_with fail
          refine (law01_works _).mono ?_
          rintro e w7 ⟨rfl, hx7⟩
          go_wp2
          go_ret
          exact ⟨rfl, (hw0.trans hx0r).trans hx7⟩
    · have hG' : ¬ (l.length ≤ 9 ∧ 0 ≤ y.later ∧ y.later ≤ 2880 ∧ 0 ≤ y.pace ∧ y.pace ≤ 300 ∧ 0 ≤ y.load ∧ y.load ≤ 100 ∧ 0 ≤ y.grade ∧ y.grade ≤ 10 ∧ 0 ≤ y.snow ∧ y.snow ≤ 100 ∧ y.more.f5.length ≤ 20) := fun ⟨a1, a2, a3, a4, a5, a6, a7, a8, a9, a10, a11, a12⟩ => hG ⟨by rw [HNL.out]; exact a1, a2, a3, a4, a5, a6, a7, a8, a9, a10, a11, a12⟩
      clear hG
      by_cases e0 : l.length ≤ 9
      case neg =>
        have e0n : decide ((9 : Int) < (l.length : Int)) = true := by simp; omega
        clear e0 hG'
        go_wp2_with fail
        refine (law01_works _).mono ?_
        rintro e w2 ⟨rfl, hx2⟩
        go_wp2
        go_ret
        exact ⟨rfl, (hw0.trans hx1).trans hx2⟩
      have e0b : decide ((9 : Int) < (l.length : Int)) = false := by simp; omega
      by_cases e1 : 0 ≤ y.later
      case neg =>
        have e1n : y.later < 0 := by omega
        clear e1 hG'
        go_wp2_with fail
        refine (law01_works _).mono ?_
        rintro e w2 ⟨rfl, hx2⟩
        go_wp2
        go_ret
        exact ⟨rfl, (hw0.trans hx1).trans hx2⟩
      by_cases e2 : y.later ≤ 2880
      case neg =>
        have e2n : 2880 < y.later := by omega
        clear e2 hG'
        go_wp2_with fail
        refine (law01_works _).mono ?_
        rintro e w2 ⟨rfl, hx2⟩
        go_wp2
        go_ret
        exact ⟨rfl, (hw0.trans hx1).trans hx2⟩
      by_cases e3 : 0 ≤ y.pace
      case neg =>
        have e3n : y.pace < 0 := by omega
        clear e3 hG'
        go_wp2_with fail
        refine (law01_works _).mono ?_
        rintro e w2 ⟨rfl, hx2⟩
        go_wp2
        go_ret
        exact ⟨rfl, (hw0.trans hx1).trans hx2⟩
      by_cases e4 : y.pace ≤ 300
      case neg =>
        have e4n : 300 < y.pace := by omega
        clear e4 hG'
        go_wp2_with fail
        refine (law01_works _).mono ?_
        rintro e w2 ⟨rfl, hx2⟩
        go_wp2
        go_ret
        exact ⟨rfl, (hw0.trans hx1).trans hx2⟩
      by_cases e5 : 0 ≤ y.load
      case neg =>
        have e5n : y.load < 0 := by omega
        clear e5 hG'
        go_wp2_with fail
        refine (law01_works _).mono ?_
        rintro e w2 ⟨rfl, hx2⟩
        go_wp2
        go_ret
        exact ⟨rfl, (hw0.trans hx1).trans hx2⟩
      by_cases e6 : y.load ≤ 100
      case neg =>
        have e6n : 100 < y.load := by omega
        clear e6 hG'
        go_wp2_with fail
        refine (law01_works _).mono ?_
        rintro e w2 ⟨rfl, hx2⟩
        go_wp2
        go_ret
        exact ⟨rfl, (hw0.trans hx1).trans hx2⟩
      by_cases e7 : 0 ≤ y.grade
      case neg =>
        have e7n : y.grade < 0 := by omega
        clear e7 hG'
        go_wp2_with fail
        refine (law01_works _).mono ?_
        rintro e w2 ⟨rfl, hx2⟩
        go_wp2
        go_ret
        exact ⟨rfl, (hw0.trans hx1).trans hx2⟩
      by_cases e8 : y.grade ≤ 10
      case neg =>
        have e8n : 10 < y.grade := by omega
        clear e8 hG'
        go_wp2_with fail
        refine (law01_works _).mono ?_
        rintro e w2 ⟨rfl, hx2⟩
        go_wp2
        go_ret
        exact ⟨rfl, (hw0.trans hx1).trans hx2⟩
      by_cases e9 : 0 ≤ y.snow
      case neg =>
        have e9n : y.snow < 0 := by omega
        clear e9 hG'
        go_wp2_with fail
        refine (law01_works _).mono ?_
        rintro e w2 ⟨rfl, hx2⟩
        go_wp2
        go_ret
        exact ⟨rfl, (hw0.trans hx1).trans hx2⟩
      by_cases e10 : y.snow ≤ 100
      case neg =>
        have e10n : 100 < y.snow := by omega
        clear e10 hG'
        go_wp2_with fail
        refine (law01_works _).mono ?_
        rintro e w2 ⟨rfl, hx2⟩
        go_wp2
        go_ret
        exact ⟨rfl, (hw0.trans hx1).trans hx2⟩
      by_cases e11 : y.more.f5.length ≤ 20
      case neg =>
        have e11n : decide ((20 : Int) < (y.more.f5.length : Int)) = true := by simp; omega
        clear e11 hG'
        go_wp2_with fail
        refine (law01_works _).mono ?_
        rintro e w2 ⟨rfl, hx2⟩
        go_wp2
        go_ret
        exact ⟨rfl, (hw0.trans hx1).trans hx2⟩
      exact absurd ⟨e0, e1, e2, e3, e4, e5, e6, e7, e8, e9, e10, e11⟩ hG'
  · have hb' : fitsB n p x = false := by simpa using hb
    have HFT := Lib.hid hb'
    clear hb hb'
    go_enter Try.func3, Try.ntmps3
    go_wp2_with fail
    refine HF.out.mono ?_
    clear HF
    rintro e w1 ⟨rfl, hx1⟩
    rw [HFT.out]
    go_wp2_with fail
    refine (law01_works _).mono ?_
    rintro e w2 ⟨rfl, hx2⟩
    go_wp2
    go_ret
    exact ⟨rfl, (hw0.trans hx1).trans hx2⟩
end Go.Proofs.Ytnjlpkdpmbpblaa
