/- tells: what the product package tells of one automaton, against the reference. -/
import Derived.Test.YtmfijgigfianeaaGreatGrRefCount
import Derived.Test.YtmfijgigfianeaaGreatGrFar
import Derived.Test.YtmfijgigfianeaaGreatGrMk
import Derived.Test.YtmfijgigfianeaaGreatGrNear
import Derived.Deep.DeepCutAuto
set_option linter.unusedVariables false
set_option linter.unusedSimpArgs false
namespace Rp
open Go Go.RowKit Go.Proofs
theorem not_sizes {d : Dfa} (s : DfaS d) : DfaS ⟨d.cls, d.next, d.marks.map notM⟩ :=
  ⟨s.b1, s.b2, by simpa using s.b3, s.b4, fun l hl => by obtain ⟨m, _, rfl⟩ := List.mem_map.1 hl; unfold notM; split <;> simp⟩
theorem right_sizes0 : DfaS noDfa := ⟨by decide, by decide, by decide, fun l hl => by simp [noDfa] at hl, fun l hl => by simp [noDfa] at hl⟩
section
variable {K1 K2 : Kd BSet} {e1 e2 e3 e4 : TypeId}
/-- Two of different kinds are laid. -/
theorem two_put2 {y W0 : World} {B g9 g10 : Nat} {T1 T2 : TypeId} {h1 h2 : DA} {a b : Dfa} {F1 F2 : Nat → Prop} {z0 z1 z2 x0 x1 x2 : Value} (q9 : y.heap[g9]? = some (.cells #[z0, z1, z2] T1 (0, 0))) (q10 : y.heap[g10]? = some (.cells #[x0, x1, x2] T2 (0, 0))) (hne : g9 ≠ g10)
    (o1 : DfaG K1 e1 e2 y B F1 h1 a) (o2 : DfaG K2 e3 e4 y B F2 h2 b) (n1 : ∀ k, F1 k → k ≠ g9 ∧ k ≠ g10 ∧ B ≤ k) (n2 : ∀ k, F2 k → k ≠ g9 ∧ k ≠ g10 ∧ B ≤ k) (hB : Below B W0 y) (l9 : B ≤ g9) (l10 : B ≤ g10)
    (W : World) (hW : W = (((((y.setCell ⟨g9, 0, none⟩ (.slice h1.A1 a.cls.length h1.c1)).setCell ⟨g9, 1, none⟩ (.slice h1.A2 a.next.length h1.c2)).setCell ⟨g9, 2, none⟩ (.slice h1.A3 a.marks.length h1.c3)).setCell ⟨g10, 0, none⟩ (.slice h2.A1 b.cls.length h2.c1)).setCell ⟨g10, 1, none⟩ (.slice h2.A2 b.next.length h2.c2)).setCell ⟨g10, 2, none⟩ (.slice h2.A3 b.marks.length h2.c3)) :
    W.heap[g9]? = some (.cells (dfaC h1 a) T1 (0, 0)) ∧ W.heap[g10]? = some (.cells (dfaC h2 b) T2 (0, 0)) ∧ DfaG K1 e1 e2 W B (fun k => B ≤ k) h1 a ∧ DfaG K2 e3 e4 W B (fun k => B ≤ k) h2 b ∧ Below B W0 W := by
  have hoth : ∀ j, j ≠ g9 → j ≠ g10 → W.heap[j]? = y.heap[j]? := fun j h9 h10 => by
    rw [hW]
    iterate 3 rw [Below.heap_setCell _ _ _ j (by simpa using h10)]
    iterate 3 rw [Below.heap_setCell _ _ _ j (by simpa using h9)]
  refine ⟨?_, ?_, ?_, ?_, ?_⟩
  · rw [hW]
    iterate 3 rw [Below.heap_setCell _ _ _ g9 (by simpa using hne)]
    have k1 := setCell_heap y g9 0 _ _ _ (.slice h1.A1 a.cls.length h1.c1) q9
    have k2 := setCell_heap _ g9 1 _ _ _ (.slice h1.A2 a.next.length h1.c2) k1
    have k3 := setCell_heap _ g9 2 _ _ _ (.slice h1.A3 a.marks.length h1.c3) k2
    simpa using k3
  · rw [hW]
    have k0 : (((y.setCell ⟨g9, 0, none⟩ (.slice h1.A1 a.cls.length h1.c1)).setCell ⟨g9, 1, none⟩ (.slice h1.A2 a.next.length h1.c2)).setCell ⟨g9, 2, none⟩ (.slice h1.A3 a.marks.length h1.c3)).heap[g10]? = some (.cells #[x0, x1, x2] T2 (0, 0)) := by
      iterate 3 rw [Below.heap_setCell _ _ _ g10 (by simpa using fun e => hne e.symm)]
      exact q10
    have k1 := setCell_heap _ g10 0 _ _ _ (.slice h2.A1 b.cls.length h2.c1) k0
    have k2 := setCell_heap _ g10 1 _ _ _ (.slice h2.A2 b.next.length h2.c2) k1
    have k3 := setCell_heap _ g10 2 _ _ _ (.slice h2.A3 b.marks.length h2.c3) k2
    simpa using k3
  · exact (o1.step fun k hk _ => hoth k (n1 k hk).1 (n1 k hk).2.1).mono fun k hk => (n1 k hk).2.2
  · exact (o2.step fun k hk _ => hoth k (n2 k hk).1 (n2 k hk).2.1).mono fun k hk => (n2 k hk).2.2
  · rw [hW]
    exact (((((hB.setCell (p := ⟨g9, 0, none⟩) l9 _).setCell (p := ⟨g9, 1, none⟩) l9 _).setCell (p := ⟨g9, 2, none⟩) l9 _).setCell (p := ⟨g10, 0, none⟩) l10 _).setCell (p := ⟨g10, 1, none⟩) l10 _).setCell (p := ⟨g10, 2, none⟩) l10 _
end
/-- What tells has laid: an automaton, and that of the reference. -/
structure TlS (W : World) (g7 g8 : Nat) (h1 h2 : DA) (d : Dfa) : Prop where
  r7 : W.heap[g7]? = some (.cells (dfaC h1 d) 25 (0, 0))
  r8 : W.heap[g8]? = some (.cells (dfaC h2 d) 42 (0, 0))
  p : DfaR W (fun _ => True) h1 d
  x : DfaT W (fun _ => True) h2 d
theorem TlS.below {W W' : World} {g7 g8 : Nat} {h1 h2 : DA} {d : Dfa} (m : TlS W g7 g8 h1 h2 d) (hB : Below W.heap.size W W') : TlS W' g7 g8 h1 h2 d :=
  ⟨(hB.block _ (Array.getElem?_eq_some_iff.1 m.r7).1).trans m.r7, (hB.block _ (Array.getElem?_eq_some_iff.1 m.r8).1).trans m.r8, m.p.below hB, m.x.below hB⟩
end Rp
namespace Go.Proofs
open Go Go.RowKit Go.Shelf Rp Go.Maps
attribute [local go_sem] Oper.semAt_some
set_option maxRecDepth 100000 in
set_option maxHeartbeats 12800000 in
theorem c_tells0 (A1 A2 A3 : Option Addr) (k1 k2 k3 : Nat) (d : Dfa) (n most : Int) (F : Nat → Prop) (w : World) (ra : DfaR w F ⟨A1, k1, A2, k2, A3, k3⟩ d) (sa : DfaS d) :
    Calls Tryz.prog 9 #[.agg #[.slice A1 d.cls.length k1, .slice A2 d.next.length k2, .slice A3 d.marks.length k3], .int .i64 n, .int .i64 most] w
      fun e w' => e = .returned (.bool true) ∧ Below w.heap.size w w' := by
  have hcA := fun W' (hW' : Below w.heap.size w W') => c_copy ⟨A1, k1, A2, k2, A3, k3⟩ d F W' (ra.below hW') sa
  have htA := fun W' (hW' : Below w.heap.size w W') => c_theirs ⟨A1, k1, A2, k2, A3, k3⟩ d F W' (ra.below hW') sa
  simp only [dfaV, dfaC] at hcA htA
  have SA := Lib.hid sa
  clear ra sa
  go_enter Tryz.func9, Tryz.ntmps9
  go_upto_region 1 with (fail)
  refine wp_name fun W1 hW1 => ?_
  have q0 : W1.heap[w.heap.size]? = some (.cells #[.slice A1 d.cls.length k1, .slice A2 d.next.length k2, .slice A3 d.marks.length k3] 25 (0, 0)) := by
    rw [← hW1]; exact World.alloc_heap_new w _
  have hB1 : Below w.heap.size w W1 := by rw [← hW1]; exact (Below.refl _ _).alloc (Nat.le_refl _) _
  have hz1 : w.heap.size < W1.heap.size := by rw [← hW1]; simp
  clear hW1
  have hc1 := fun W' (hW' : Below W1.heap.size W1 W') => hcA W' (hB1.trans (hW'.mono hB1.size))
  have hc2 := fun W' (hW' : Below W1.heap.size W1 W') => htA W' (hB1.trans (hW'.mono hB1.size))
  clear hcA htA
  obtain ⟨a0, a1, a2⟩ := cells3 q0
  have HB1 := Lib.hid hB1
  clear q0 hB1
  go_cut [7, 8] (fun s7 s8 wx => ∃ (g7 g8 : Nat) (h1 h2 : DA), s7 = .pointer (some ⟨g7, 0, none⟩) ∧ s8 = .pointer (some ⟨g8, 0, none⟩) ∧ (wx.heap[g7]? = some (.cells (dfaC h1 d) 25 (0, 0)) ∧ wx.heap[g8]? = some (.cells (dfaC h2 d) 42 (0, 0)) ∧ DfaG Kset 33 36 wx W1.heap.size (fun k => W1.heap.size ≤ k) h1 d ∧ DfaG Kref 75 36 wx W1.heap.size (fun k => W1.heap.size ≤ k) h2 d ∧ Below W1.heap.size W1 wx) ∧ W1.heap.size ≤ g7 ∧ W1.heap.size ≤ g8)
  case first => as_aux_lemma =>
    obtain ⟨SS, hSS⟩ : ∃ S : World → Prop, S = fun w' => Below W1.heap.size W1 w' := ⟨_, rfl⟩
    have hSi : ∀ W', SS W' → Below W1.heap.size W1 W' := fun W' h => by rw [hSS] at h; exact h
    have hSo : ∀ W', Below W1.heap.size W1 W' → SS W' := fun W' h => by rw [hSS]; exact h
    clear hSS
    refine wp_region_noPanic (wp_region_T SS [0, 2] (by kernel_rfl) ?_)
    have hBel : Below W1.heap.size W1 W1.drew := (Below.refl _ _).drew
    have hz0 : W1.heap.size ≤ W1.drew.heap.size := Nat.le_refl _
    have hS : SS W1.drew := hSo _ hBel
    generalize W1.drew = y0 at *
    refine wpAnyT_take (i := 0) (v := ?v0_1) rfl rfl (by kernel_rfl) (by kernel_rfl) (by kernel_rfl) (fun _ _ _ h => h) (by rfl) hS ?hy0_1 ?r0_1
    case hy0_1 => (intro w hSw; have e0 := bcellS (hSi _ hSw) a0; have e1 := bcellS (hSi _ hSw) a1; have e2 := bcellS (hSi _ hSw) a2; (try dsimp only at hSw); go_simp; try (with_reducible rfl))
    case r0_1 =>
    try simp only [Act.put, List.setIfInBounds_toArray, List.set_cons_zero, List.set_cons_succ]
    refine wpAnyT_take (i := 2) (v := ?v2_2) rfl rfl (by kernel_rfl) (by kernel_rfl) (by kernel_rfl) (fun _ _ _ h => h) (by rfl) hS ?hy2_2 ?r2_2
    case hy2_2 => (intro w hSw; have e0 := bcellS (hSi _ hSw) a0; have e1 := bcellS (hSi _ hSw) a1; have e2 := bcellS (hSi _ hSw) a2; (try dsimp only at hSw); go_simp; try (with_reducible rfl))
    case r2_2 =>
    try simp only [Act.put, List.setIfInBounds_toArray, List.set_cons_zero, List.set_cons_succ]
    clear a0 a1 a2 hSi hS
    refine wpAnyT_three (i := 1) (j := 4) (k := 5) rfl rfl rfl (by kernel_rfl) (by rfl) (by rfl) (by rfl) (fun K hK => ?_) (fun K hK => ?_) (fun K hK => ?_)
    · go_simp
      refine (hc1 y0 hBel).mono ?_
      rintro e y1 ⟨h1, rfl, hO, hBx⟩
      obtain ⟨X11, x11, X12, x12, X13, x13⟩ := h1
      have hBel' := hBel.trans (hBx.mono hBel.size)
      try dsimp only [dfaV, dfaC]
      refine hK _ _ (fun _ _ => hSo _ hBel') ?_
      have s1 := hBx.size
      have o1 := (DfaO.g hO).bound
      clear hO hBel hBx
      have hBel := hBel'
      clear hBel'
      clear hK K
      try simp only [Act.put, List.setIfInBounds_toArray, List.set_cons_zero, List.set_cons_succ]
      refine wpAnyT_three (i := 3) (j := 4) (k := 5) rfl rfl rfl (by kernel_rfl) (by rfl) (by rfl) (by rfl) (fun K hK => ?_) (fun K hK => ?_) (fun K hK => ?_)
      · go_simp
        refine (hc2 y1 hBel).mono ?_
        rintro e y2 ⟨h2, rfl, hO, hBx⟩
        obtain ⟨X21, x21, X22, x22, X23, x23⟩ := h2
        have hBel' := hBel.trans (hBx.mono hBel.size)
        try dsimp only [dfaV, dfaC]
        refine hK _ _ (fun _ _ => hSo _ hBel') ?_
        have s2 := hBx.size
        have o1 := o1.below hBx
        have o2 := (DfaW.g hO).bound
        clear hO hBel hBx
        have hBel := hBel'
        clear hBel'
        clear hK K
        try simp only [Act.put, List.setIfInBounds_toArray, List.set_cons_zero, List.set_cons_succ]
        refine wpAnyT_two (i := 4) (j := 5) rfl rfl (by kernel_rfl) (by rfl) (by rfl) (fun K hK => ?_) (fun K hK => ?_)
        · go_simp
          refine hK _ _ (fun _ _ => hSo _ (hBel.alloc hBel.size _)) ?_
          have s3 : y2.heap.size < (y2.alloc (.cells #[.slice none 0 0, .slice none 0 0, .slice none 0 0] 25)).heap.size := by simp
          have o1 := o1.step (w' := y2.alloc (.cells #[.slice none 0 0, .slice none 0 0, .slice none 0 0] 25)) fun b _ hl => Below.heap_alloc _ _ b hl
          have o2 := o2.step (w' := y2.alloc (.cells #[.slice none 0 0, .slice none 0 0, .slice none 0 0] 25)) fun b _ hl => Below.heap_alloc _ _ b hl
          have q4 := World.alloc_heap_new y2 (.cells #[.slice none 0 0, .slice none 0 0, .slice none 0 0] 25)
          have hBel' := hBel.alloc hBel.size (.cells #[.slice none 0 0, .slice none 0 0, .slice none 0 0] 25)
          clear hBel
          have hBel := hBel'
          clear hBel'
          clear hK K
          try simp only [Act.put, List.setIfInBounds_toArray, List.set_cons_zero, List.set_cons_succ]
          generalize hy3 : y2.alloc (.cells #[.slice none 0 0, .slice none 0 0, .slice none 0 0] 25) = y3 at *
          clear hy3
          refine wpAnyT_one (i := 5) rfl (by kernel_rfl) (by rfl) (fun K hK => ?_)
          go_simp
          refine hK _ _ (fun _ _ => hSo _ (hBel.alloc hBel.size _)) ?_
          have s4 : y3.heap.size < (y3.alloc (.cells #[.slice none 0 0, .slice none 0 0, .slice none 0 0] 42)).heap.size := by simp
          have q4 := (Below.heap_alloc y3 (.cells #[.slice none 0 0, .slice none 0 0, .slice none 0 0] 42) _ (by omega)).trans q4
          have o1 := o1.step (w' := y3.alloc (.cells #[.slice none 0 0, .slice none 0 0, .slice none 0 0] 42)) fun b _ hl => Below.heap_alloc _ _ b hl
          have o2 := o2.step (w' := y3.alloc (.cells #[.slice none 0 0, .slice none 0 0, .slice none 0 0] 42)) fun b _ hl => Below.heap_alloc _ _ b hl
          have q5 := World.alloc_heap_new y3 (.cells #[.slice none 0 0, .slice none 0 0, .slice none 0 0] 42)
          have hBel' := hBel.alloc hBel.size (.cells #[.slice none 0 0, .slice none 0 0, .slice none 0 0] 42)
          clear hBel
          have hBel := hBel'
          clear hBel'
          clear hK K
          try simp only [Act.put, List.setIfInBounds_toArray, List.set_cons_zero, List.set_cons_succ]
          generalize hy4 : y3.alloc (.cells #[.slice none 0 0, .slice none 0 0, .slice none 0 0] 42) = y4 at *
          clear hy4
          obtain ⟨c0, c1, c2⟩ := cells3 q4
          have cf : ∀ j, y4.frozen? ⟨y2.heap.size, j, none⟩ = false := fun j => frozen_of_row _ _ j _ _ q4
          refine wpAnyT_one (i := 6) rfl (by kernel_rfl) (by rfl) (fun K hK => ?_)
          go_simp
          refine hK _ _ (fun _ _ => hSo _ (((hBel.setCell (p := ⟨y2.heap.size, 0, none⟩) (by show W1.heap.size ≤ y2.heap.size; omega) _).setCell (p := ⟨y2.heap.size, 1, none⟩) (by show W1.heap.size ≤ y2.heap.size; omega) _).setCell (p := ⟨y2.heap.size, 2, none⟩) (by show W1.heap.size ≤ y2.heap.size; omega) _)) ?_
          clear hK K
          try simp only [Act.put, List.setIfInBounds_toArray, List.set_cons_zero, List.set_cons_succ]
          have hne : y2.heap.size ≠ y3.heap.size := by omega
          have r5 := (Below.heap_setCell ((y4.setCell ⟨y2.heap.size, 0, none⟩ (.slice X11 d.cls.length x11)).setCell ⟨y2.heap.size, 1, none⟩ (.slice X12 d.next.length x12)) ⟨y2.heap.size, 2, none⟩ (.slice X13 d.marks.length x13) _ (fun e => hne e.symm)).trans ((Below.heap_setCell (y4.setCell ⟨y2.heap.size, 0, none⟩ (.slice X11 d.cls.length x11)) ⟨y2.heap.size, 1, none⟩ (.slice X12 d.next.length x12) _ (fun e => hne e.symm)).trans ((Below.heap_setCell y4 ⟨y2.heap.size, 0, none⟩ (.slice X11 d.cls.length x11) _ (fun e => hne e.symm)).trans q5))
          obtain ⟨d0, d1, d2⟩ := cells3 r5
          have df := fun j => frozen_of_row _ _ j _ _ r5
          clear c0 c1 c2 cf
          refine wpAnyT_one (i := 7) rfl (by kernel_rfl) (by rfl) (fun K hK => ?_)
          generalize hyz : ((y4.setCell ⟨y2.heap.size, 0, none⟩ (.slice X11 d.cls.length x11)).setCell ⟨y2.heap.size, 1, none⟩ (.slice X12 d.next.length x12)).setCell ⟨y2.heap.size, 2, none⟩ (.slice X13 d.marks.length x13) = yz at *
          have HYZ := Lib.hid hyz
          clear hyz
          go_simp
          refine hK _ _ (no_need (by kernel_rfl)) ?_
          clear hK K
          try simp only [Act.put, List.setIfInBounds_toArray, List.set_cons_zero, List.set_cons_succ]
          refine wpAnyT_done (by kernel_rfl) ?_ _
          refine NoPanic.normal ?_
          clear d0 d1 d2 df
          go_wp2_with fail
          go_meet
          exact ⟨_, _, ⟨X11, x11, X12, x12, X13, x13⟩, ⟨X21, x21, X22, x22, X23, x23⟩, rfl, rfl, two_put2 q4 q5 hne (o1.lower (by omega)) (o2.lower (by omega)) (fun k hk => by omega) (fun k hk => by omega) hBel (by omega) (by omega) _ (by rw [HYZ.out]), by omega, by omega⟩
        · go_simp
          refine hK _ _ (fun _ _ => hSo _ (hBel.alloc hBel.size _)) ?_
          have s5 : y2.heap.size < (y2.alloc (.cells #[.slice none 0 0, .slice none 0 0, .slice none 0 0] 42)).heap.size := by simp
          have o1 := o1.step (w' := y2.alloc (.cells #[.slice none 0 0, .slice none 0 0, .slice none 0 0] 42)) fun b _ hl => Below.heap_alloc _ _ b hl
          have o2 := o2.step (w' := y2.alloc (.cells #[.slice none 0 0, .slice none 0 0, .slice none 0 0] 42)) fun b _ hl => Below.heap_alloc _ _ b hl
          have q5 := World.alloc_heap_new y2 (.cells #[.slice none 0 0, .slice none 0 0, .slice none 0 0] 42)
          have hBel' := hBel.alloc hBel.size (.cells #[.slice none 0 0, .slice none 0 0, .slice none 0 0] 42)
          clear hBel
          have hBel := hBel'
          clear hBel'
          clear hK K
          try simp only [Act.put, List.setIfInBounds_toArray, List.set_cons_zero, List.set_cons_succ]
          generalize hy5 : y2.alloc (.cells #[.slice none 0 0, .slice none 0 0, .slice none 0 0] 42) = y5 at *
          clear hy5
          refine wpAnyT_one (i := 4) rfl (by kernel_rfl) (by rfl) (fun K hK => ?_)
          go_simp
          refine hK _ _ (fun _ _ => hSo _ (hBel.alloc hBel.size _)) ?_
          have s6 : y5.heap.size < (y5.alloc (.cells #[.slice none 0 0, .slice none 0 0, .slice none 0 0] 25)).heap.size := by simp
          have q5 := (Below.heap_alloc y5 (.cells #[.slice none 0 0, .slice none 0 0, .slice none 0 0] 25) _ (by omega)).trans q5
          have o1 := o1.step (w' := y5.alloc (.cells #[.slice none 0 0, .slice none 0 0, .slice none 0 0] 25)) fun b _ hl => Below.heap_alloc _ _ b hl
          have o2 := o2.step (w' := y5.alloc (.cells #[.slice none 0 0, .slice none 0 0, .slice none 0 0] 25)) fun b _ hl => Below.heap_alloc _ _ b hl
          have q4 := World.alloc_heap_new y5 (.cells #[.slice none 0 0, .slice none 0 0, .slice none 0 0] 25)
          have hBel' := hBel.alloc hBel.size (.cells #[.slice none 0 0, .slice none 0 0, .slice none 0 0] 25)
          clear hBel
          have hBel := hBel'
          clear hBel'
          clear hK K
          try simp only [Act.put, List.setIfInBounds_toArray, List.set_cons_zero, List.set_cons_succ]
          generalize hy6 : y5.alloc (.cells #[.slice none 0 0, .slice none 0 0, .slice none 0 0] 25) = y6 at *
          clear hy6
          obtain ⟨c0, c1, c2⟩ := cells3 q4
          have cf : ∀ j, y6.frozen? ⟨y5.heap.size, j, none⟩ = false := fun j => frozen_of_row _ _ j _ _ q4
          refine wpAnyT_one (i := 6) rfl (by kernel_rfl) (by rfl) (fun K hK => ?_)
          go_simp
          refine hK _ _ (fun _ _ => hSo _ (((hBel.setCell (p := ⟨y5.heap.size, 0, none⟩) (by show W1.heap.size ≤ y5.heap.size; omega) _).setCell (p := ⟨y5.heap.size, 1, none⟩) (by show W1.heap.size ≤ y5.heap.size; omega) _).setCell (p := ⟨y5.heap.size, 2, none⟩) (by show W1.heap.size ≤ y5.heap.size; omega) _)) ?_
          clear hK K
          try simp only [Act.put, List.setIfInBounds_toArray, List.set_cons_zero, List.set_cons_succ]
          have hne : y5.heap.size ≠ y2.heap.size := by omega
          have r5 := (Below.heap_setCell ((y6.setCell ⟨y5.heap.size, 0, none⟩ (.slice X11 d.cls.length x11)).setCell ⟨y5.heap.size, 1, none⟩ (.slice X12 d.next.length x12)) ⟨y5.heap.size, 2, none⟩ (.slice X13 d.marks.length x13) _ (fun e => hne e.symm)).trans ((Below.heap_setCell (y6.setCell ⟨y5.heap.size, 0, none⟩ (.slice X11 d.cls.length x11)) ⟨y5.heap.size, 1, none⟩ (.slice X12 d.next.length x12) _ (fun e => hne e.symm)).trans ((Below.heap_setCell y6 ⟨y5.heap.size, 0, none⟩ (.slice X11 d.cls.length x11) _ (fun e => hne e.symm)).trans q5))
          obtain ⟨d0, d1, d2⟩ := cells3 r5
          have df := fun j => frozen_of_row _ _ j _ _ r5
          clear c0 c1 c2 cf
          refine wpAnyT_one (i := 7) rfl (by kernel_rfl) (by rfl) (fun K hK => ?_)
          generalize hyz : ((y6.setCell ⟨y5.heap.size, 0, none⟩ (.slice X11 d.cls.length x11)).setCell ⟨y5.heap.size, 1, none⟩ (.slice X12 d.next.length x12)).setCell ⟨y5.heap.size, 2, none⟩ (.slice X13 d.marks.length x13) = yz at *
          have HYZ := Lib.hid hyz
          clear hyz
          go_simp
          refine hK _ _ (no_need (by kernel_rfl)) ?_
          clear hK K
          try simp only [Act.put, List.setIfInBounds_toArray, List.set_cons_zero, List.set_cons_succ]
          refine wpAnyT_done (by kernel_rfl) ?_ _
          refine NoPanic.normal ?_
          clear d0 d1 d2 df
          go_wp2_with fail
          go_meet
          exact ⟨_, _, ⟨X11, x11, X12, x12, X13, x13⟩, ⟨X21, x21, X22, x22, X23, x23⟩, rfl, rfl, two_put2 q4 q5 hne (o1.lower (by omega)) (o2.lower (by omega)) (fun k hk => by omega) (fun k hk => by omega) hBel (by omega) (by omega) _ (by rw [HYZ.out]), by omega, by omega⟩
      · go_simp
        refine hK _ _ (fun _ _ => hSo _ (hBel.alloc hBel.size _)) ?_
        have s7 : y1.heap.size < (y1.alloc (.cells #[.slice none 0 0, .slice none 0 0, .slice none 0 0] 25)).heap.size := by simp
        have o1 := o1.step (w' := y1.alloc (.cells #[.slice none 0 0, .slice none 0 0, .slice none 0 0] 25)) fun b _ hl => Below.heap_alloc _ _ b hl
        have q4 := World.alloc_heap_new y1 (.cells #[.slice none 0 0, .slice none 0 0, .slice none 0 0] 25)
        have hBel' := hBel.alloc hBel.size (.cells #[.slice none 0 0, .slice none 0 0, .slice none 0 0] 25)
        clear hBel
        have hBel := hBel'
        clear hBel'
        clear hK K
        try simp only [Act.put, List.setIfInBounds_toArray, List.set_cons_zero, List.set_cons_succ]
        generalize hy7 : y1.alloc (.cells #[.slice none 0 0, .slice none 0 0, .slice none 0 0] 25) = y7 at *
        clear hy7
        refine wpAnyT_two (i := 3) (j := 5) rfl rfl (by kernel_rfl) (by rfl) (by rfl) (fun K hK => ?_) (fun K hK => ?_)
        · go_simp
          refine (hc2 y7 hBel).mono ?_
          rintro e y8 ⟨h2, rfl, hO, hBx⟩
          obtain ⟨X21, x21, X22, x22, X23, x23⟩ := h2
          have hBel' := hBel.trans (hBx.mono hBel.size)
          try dsimp only [dfaV, dfaC]
          refine hK _ _ (fun _ _ => hSo _ hBel') ?_
          have s8 := hBx.size
          have q4 := (hBx.block _ (by omega)).trans q4
          have o1 := o1.below hBx
          have o2 := (DfaW.g hO).bound
          clear hO hBel hBx
          have hBel := hBel'
          clear hBel'
          clear hK K
          try simp only [Act.put, List.setIfInBounds_toArray, List.set_cons_zero, List.set_cons_succ]
          refine wpAnyT_one (i := 5) rfl (by kernel_rfl) (by rfl) (fun K hK => ?_)
          go_simp
          refine hK _ _ (fun _ _ => hSo _ (hBel.alloc hBel.size _)) ?_
          have s9 : y8.heap.size < (y8.alloc (.cells #[.slice none 0 0, .slice none 0 0, .slice none 0 0] 42)).heap.size := by simp
          have q4 := (Below.heap_alloc y8 (.cells #[.slice none 0 0, .slice none 0 0, .slice none 0 0] 42) _ (by omega)).trans q4
          have o1 := o1.step (w' := y8.alloc (.cells #[.slice none 0 0, .slice none 0 0, .slice none 0 0] 42)) fun b _ hl => Below.heap_alloc _ _ b hl
          have o2 := o2.step (w' := y8.alloc (.cells #[.slice none 0 0, .slice none 0 0, .slice none 0 0] 42)) fun b _ hl => Below.heap_alloc _ _ b hl
          have q5 := World.alloc_heap_new y8 (.cells #[.slice none 0 0, .slice none 0 0, .slice none 0 0] 42)
          have hBel' := hBel.alloc hBel.size (.cells #[.slice none 0 0, .slice none 0 0, .slice none 0 0] 42)
          clear hBel
          have hBel := hBel'
          clear hBel'
          clear hK K
          try simp only [Act.put, List.setIfInBounds_toArray, List.set_cons_zero, List.set_cons_succ]
          generalize hy9 : y8.alloc (.cells #[.slice none 0 0, .slice none 0 0, .slice none 0 0] 42) = y9 at *
          clear hy9
          obtain ⟨c0, c1, c2⟩ := cells3 q4
          have cf : ∀ j, y9.frozen? ⟨y1.heap.size, j, none⟩ = false := fun j => frozen_of_row _ _ j _ _ q4
          refine wpAnyT_one (i := 6) rfl (by kernel_rfl) (by rfl) (fun K hK => ?_)
          go_simp
          refine hK _ _ (fun _ _ => hSo _ (((hBel.setCell (p := ⟨y1.heap.size, 0, none⟩) (by show W1.heap.size ≤ y1.heap.size; omega) _).setCell (p := ⟨y1.heap.size, 1, none⟩) (by show W1.heap.size ≤ y1.heap.size; omega) _).setCell (p := ⟨y1.heap.size, 2, none⟩) (by show W1.heap.size ≤ y1.heap.size; omega) _)) ?_
          clear hK K
          try simp only [Act.put, List.setIfInBounds_toArray, List.set_cons_zero, List.set_cons_succ]
          have hne : y1.heap.size ≠ y8.heap.size := by omega
          have r5 := (Below.heap_setCell ((y9.setCell ⟨y1.heap.size, 0, none⟩ (.slice X11 d.cls.length x11)).setCell ⟨y1.heap.size, 1, none⟩ (.slice X12 d.next.length x12)) ⟨y1.heap.size, 2, none⟩ (.slice X13 d.marks.length x13) _ (fun e => hne e.symm)).trans ((Below.heap_setCell (y9.setCell ⟨y1.heap.size, 0, none⟩ (.slice X11 d.cls.length x11)) ⟨y1.heap.size, 1, none⟩ (.slice X12 d.next.length x12) _ (fun e => hne e.symm)).trans ((Below.heap_setCell y9 ⟨y1.heap.size, 0, none⟩ (.slice X11 d.cls.length x11) _ (fun e => hne e.symm)).trans q5))
          obtain ⟨d0, d1, d2⟩ := cells3 r5
          have df := fun j => frozen_of_row _ _ j _ _ r5
          clear c0 c1 c2 cf
          refine wpAnyT_one (i := 7) rfl (by kernel_rfl) (by rfl) (fun K hK => ?_)
          generalize hyz : ((y9.setCell ⟨y1.heap.size, 0, none⟩ (.slice X11 d.cls.length x11)).setCell ⟨y1.heap.size, 1, none⟩ (.slice X12 d.next.length x12)).setCell ⟨y1.heap.size, 2, none⟩ (.slice X13 d.marks.length x13) = yz at *
          have HYZ := Lib.hid hyz
          clear hyz
          go_simp
          refine hK _ _ (no_need (by kernel_rfl)) ?_
          clear hK K
          try simp only [Act.put, List.setIfInBounds_toArray, List.set_cons_zero, List.set_cons_succ]
          refine wpAnyT_done (by kernel_rfl) ?_ _
          refine NoPanic.normal ?_
          clear d0 d1 d2 df
          go_wp2_with fail
          go_meet
          exact ⟨_, _, ⟨X11, x11, X12, x12, X13, x13⟩, ⟨X21, x21, X22, x22, X23, x23⟩, rfl, rfl, two_put2 q4 q5 hne (o1.lower (by omega)) (o2.lower (by omega)) (fun k hk => by omega) (fun k hk => by omega) hBel (by omega) (by omega) _ (by rw [HYZ.out]), by omega, by omega⟩
        · go_simp
          refine hK _ _ (fun _ _ => hSo _ (hBel.alloc hBel.size _)) ?_
          have s10 : y7.heap.size < (y7.alloc (.cells #[.slice none 0 0, .slice none 0 0, .slice none 0 0] 42)).heap.size := by simp
          have q4 := (Below.heap_alloc y7 (.cells #[.slice none 0 0, .slice none 0 0, .slice none 0 0] 42) _ (by omega)).trans q4
          have o1 := o1.step (w' := y7.alloc (.cells #[.slice none 0 0, .slice none 0 0, .slice none 0 0] 42)) fun b _ hl => Below.heap_alloc _ _ b hl
          have q5 := World.alloc_heap_new y7 (.cells #[.slice none 0 0, .slice none 0 0, .slice none 0 0] 42)
          have hBel' := hBel.alloc hBel.size (.cells #[.slice none 0 0, .slice none 0 0, .slice none 0 0] 42)
          clear hBel
          have hBel := hBel'
          clear hBel'
          clear hK K
          try simp only [Act.put, List.setIfInBounds_toArray, List.set_cons_zero, List.set_cons_succ]
          generalize hy10 : y7.alloc (.cells #[.slice none 0 0, .slice none 0 0, .slice none 0 0] 42) = y10 at *
          clear hy10
          refine wpAnyT_one (i := 3) rfl (by kernel_rfl) (by rfl) (fun K hK => ?_)
          go_simp
          refine (hc2 y10 hBel).mono ?_
          rintro e y11 ⟨h2, rfl, hO, hBx⟩
          obtain ⟨X21, x21, X22, x22, X23, x23⟩ := h2
          have hBel' := hBel.trans (hBx.mono hBel.size)
          try dsimp only [dfaV, dfaC]
          refine hK _ _ (fun _ _ => hSo _ hBel') ?_
          have s11 := hBx.size
          have q4 := (hBx.block _ (by omega)).trans q4
          have q5 := (hBx.block _ (by omega)).trans q5
          have o1 := o1.below hBx
          have o2 := (DfaW.g hO).bound
          clear hO hBel hBx
          have hBel := hBel'
          clear hBel'
          clear hK K
          try simp only [Act.put, List.setIfInBounds_toArray, List.set_cons_zero, List.set_cons_succ]
          obtain ⟨c0, c1, c2⟩ := cells3 q4
          have cf : ∀ j, y11.frozen? ⟨y1.heap.size, j, none⟩ = false := fun j => frozen_of_row _ _ j _ _ q4
          refine wpAnyT_one (i := 6) rfl (by kernel_rfl) (by rfl) (fun K hK => ?_)
          go_simp
          refine hK _ _ (fun _ _ => hSo _ (((hBel.setCell (p := ⟨y1.heap.size, 0, none⟩) (by show W1.heap.size ≤ y1.heap.size; omega) _).setCell (p := ⟨y1.heap.size, 1, none⟩) (by show W1.heap.size ≤ y1.heap.size; omega) _).setCell (p := ⟨y1.heap.size, 2, none⟩) (by show W1.heap.size ≤ y1.heap.size; omega) _)) ?_
          clear hK K
          try simp only [Act.put, List.setIfInBounds_toArray, List.set_cons_zero, List.set_cons_succ]
          have hne : y1.heap.size ≠ y7.heap.size := by omega
          have r5 := (Below.heap_setCell ((y11.setCell ⟨y1.heap.size, 0, none⟩ (.slice X11 d.cls.length x11)).setCell ⟨y1.heap.size, 1, none⟩ (.slice X12 d.next.length x12)) ⟨y1.heap.size, 2, none⟩ (.slice X13 d.marks.length x13) _ (fun e => hne e.symm)).trans ((Below.heap_setCell (y11.setCell ⟨y1.heap.size, 0, none⟩ (.slice X11 d.cls.length x11)) ⟨y1.heap.size, 1, none⟩ (.slice X12 d.next.length x12) _ (fun e => hne e.symm)).trans ((Below.heap_setCell y11 ⟨y1.heap.size, 0, none⟩ (.slice X11 d.cls.length x11) _ (fun e => hne e.symm)).trans q5))
          obtain ⟨d0, d1, d2⟩ := cells3 r5
          have df := fun j => frozen_of_row _ _ j _ _ r5
          clear c0 c1 c2 cf
          refine wpAnyT_one (i := 7) rfl (by kernel_rfl) (by rfl) (fun K hK => ?_)
          generalize hyz : ((y11.setCell ⟨y1.heap.size, 0, none⟩ (.slice X11 d.cls.length x11)).setCell ⟨y1.heap.size, 1, none⟩ (.slice X12 d.next.length x12)).setCell ⟨y1.heap.size, 2, none⟩ (.slice X13 d.marks.length x13) = yz at *
          have HYZ := Lib.hid hyz
          clear hyz
          go_simp
          refine hK _ _ (no_need (by kernel_rfl)) ?_
          clear hK K
          try simp only [Act.put, List.setIfInBounds_toArray, List.set_cons_zero, List.set_cons_succ]
          refine wpAnyT_done (by kernel_rfl) ?_ _
          refine NoPanic.normal ?_
          clear d0 d1 d2 df
          go_wp2_with fail
          go_meet
          exact ⟨_, _, ⟨X11, x11, X12, x12, X13, x13⟩, ⟨X21, x21, X22, x22, X23, x23⟩, rfl, rfl, two_put2 q4 q5 hne (o1.lower (by omega)) (o2.lower (by omega)) (fun k hk => by omega) (fun k hk => by omega) hBel (by omega) (by omega) _ (by rw [HYZ.out]), by omega, by omega⟩
      · go_simp
        refine hK _ _ (fun _ _ => hSo _ (hBel.alloc hBel.size _)) ?_
        have s12 : y1.heap.size < (y1.alloc (.cells #[.slice none 0 0, .slice none 0 0, .slice none 0 0] 42)).heap.size := by simp
        have o1 := o1.step (w' := y1.alloc (.cells #[.slice none 0 0, .slice none 0 0, .slice none 0 0] 42)) fun b _ hl => Below.heap_alloc _ _ b hl
        have q5 := World.alloc_heap_new y1 (.cells #[.slice none 0 0, .slice none 0 0, .slice none 0 0] 42)
        have hBel' := hBel.alloc hBel.size (.cells #[.slice none 0 0, .slice none 0 0, .slice none 0 0] 42)
        clear hBel
        have hBel := hBel'
        clear hBel'
        clear hK K
        try simp only [Act.put, List.setIfInBounds_toArray, List.set_cons_zero, List.set_cons_succ]
        generalize hy12 : y1.alloc (.cells #[.slice none 0 0, .slice none 0 0, .slice none 0 0] 42) = y12 at *
        clear hy12
        refine wpAnyT_two (i := 3) (j := 4) rfl rfl (by kernel_rfl) (by rfl) (by rfl) (fun K hK => ?_) (fun K hK => ?_)
        · go_simp
          refine (hc2 y12 hBel).mono ?_
          rintro e y13 ⟨h2, rfl, hO, hBx⟩
          obtain ⟨X21, x21, X22, x22, X23, x23⟩ := h2
          have hBel' := hBel.trans (hBx.mono hBel.size)
          try dsimp only [dfaV, dfaC]
          refine hK _ _ (fun _ _ => hSo _ hBel') ?_
          have s13 := hBx.size
          have q5 := (hBx.block _ (by omega)).trans q5
          have o1 := o1.below hBx
          have o2 := (DfaW.g hO).bound
          clear hO hBel hBx
          have hBel := hBel'
          clear hBel'
          clear hK K
          try simp only [Act.put, List.setIfInBounds_toArray, List.set_cons_zero, List.set_cons_succ]
          refine wpAnyT_one (i := 4) rfl (by kernel_rfl) (by rfl) (fun K hK => ?_)
          go_simp
          refine hK _ _ (fun _ _ => hSo _ (hBel.alloc hBel.size _)) ?_
          have s14 : y13.heap.size < (y13.alloc (.cells #[.slice none 0 0, .slice none 0 0, .slice none 0 0] 25)).heap.size := by simp
          have q5 := (Below.heap_alloc y13 (.cells #[.slice none 0 0, .slice none 0 0, .slice none 0 0] 25) _ (by omega)).trans q5
          have o1 := o1.step (w' := y13.alloc (.cells #[.slice none 0 0, .slice none 0 0, .slice none 0 0] 25)) fun b _ hl => Below.heap_alloc _ _ b hl
          have o2 := o2.step (w' := y13.alloc (.cells #[.slice none 0 0, .slice none 0 0, .slice none 0 0] 25)) fun b _ hl => Below.heap_alloc _ _ b hl
          have q4 := World.alloc_heap_new y13 (.cells #[.slice none 0 0, .slice none 0 0, .slice none 0 0] 25)
          have hBel' := hBel.alloc hBel.size (.cells #[.slice none 0 0, .slice none 0 0, .slice none 0 0] 25)
          clear hBel
          have hBel := hBel'
          clear hBel'
          clear hK K
          try simp only [Act.put, List.setIfInBounds_toArray, List.set_cons_zero, List.set_cons_succ]
          generalize hy14 : y13.alloc (.cells #[.slice none 0 0, .slice none 0 0, .slice none 0 0] 25) = y14 at *
          clear hy14
          obtain ⟨c0, c1, c2⟩ := cells3 q4
          have cf : ∀ j, y14.frozen? ⟨y13.heap.size, j, none⟩ = false := fun j => frozen_of_row _ _ j _ _ q4
          refine wpAnyT_one (i := 6) rfl (by kernel_rfl) (by rfl) (fun K hK => ?_)
          go_simp
          refine hK _ _ (fun _ _ => hSo _ (((hBel.setCell (p := ⟨y13.heap.size, 0, none⟩) (by show W1.heap.size ≤ y13.heap.size; omega) _).setCell (p := ⟨y13.heap.size, 1, none⟩) (by show W1.heap.size ≤ y13.heap.size; omega) _).setCell (p := ⟨y13.heap.size, 2, none⟩) (by show W1.heap.size ≤ y13.heap.size; omega) _)) ?_
          clear hK K
          try simp only [Act.put, List.setIfInBounds_toArray, List.set_cons_zero, List.set_cons_succ]
          have hne : y13.heap.size ≠ y1.heap.size := by omega
          have r5 := (Below.heap_setCell ((y14.setCell ⟨y13.heap.size, 0, none⟩ (.slice X11 d.cls.length x11)).setCell ⟨y13.heap.size, 1, none⟩ (.slice X12 d.next.length x12)) ⟨y13.heap.size, 2, none⟩ (.slice X13 d.marks.length x13) _ (fun e => hne e.symm)).trans ((Below.heap_setCell (y14.setCell ⟨y13.heap.size, 0, none⟩ (.slice X11 d.cls.length x11)) ⟨y13.heap.size, 1, none⟩ (.slice X12 d.next.length x12) _ (fun e => hne e.symm)).trans ((Below.heap_setCell y14 ⟨y13.heap.size, 0, none⟩ (.slice X11 d.cls.length x11) _ (fun e => hne e.symm)).trans q5))
          obtain ⟨d0, d1, d2⟩ := cells3 r5
          have df := fun j => frozen_of_row _ _ j _ _ r5
          clear c0 c1 c2 cf
          refine wpAnyT_one (i := 7) rfl (by kernel_rfl) (by rfl) (fun K hK => ?_)
          generalize hyz : ((y14.setCell ⟨y13.heap.size, 0, none⟩ (.slice X11 d.cls.length x11)).setCell ⟨y13.heap.size, 1, none⟩ (.slice X12 d.next.length x12)).setCell ⟨y13.heap.size, 2, none⟩ (.slice X13 d.marks.length x13) = yz at *
          have HYZ := Lib.hid hyz
          clear hyz
          go_simp
          refine hK _ _ (no_need (by kernel_rfl)) ?_
          clear hK K
          try simp only [Act.put, List.setIfInBounds_toArray, List.set_cons_zero, List.set_cons_succ]
          refine wpAnyT_done (by kernel_rfl) ?_ _
          refine NoPanic.normal ?_
          clear d0 d1 d2 df
          go_wp2_with fail
          go_meet
          exact ⟨_, _, ⟨X11, x11, X12, x12, X13, x13⟩, ⟨X21, x21, X22, x22, X23, x23⟩, rfl, rfl, two_put2 q4 q5 hne (o1.lower (by omega)) (o2.lower (by omega)) (fun k hk => by omega) (fun k hk => by omega) hBel (by omega) (by omega) _ (by rw [HYZ.out]), by omega, by omega⟩
        · go_simp
          refine hK _ _ (fun _ _ => hSo _ (hBel.alloc hBel.size _)) ?_
          have s15 : y12.heap.size < (y12.alloc (.cells #[.slice none 0 0, .slice none 0 0, .slice none 0 0] 25)).heap.size := by simp
          have q5 := (Below.heap_alloc y12 (.cells #[.slice none 0 0, .slice none 0 0, .slice none 0 0] 25) _ (by omega)).trans q5
          have o1 := o1.step (w' := y12.alloc (.cells #[.slice none 0 0, .slice none 0 0, .slice none 0 0] 25)) fun b _ hl => Below.heap_alloc _ _ b hl
          have q4 := World.alloc_heap_new y12 (.cells #[.slice none 0 0, .slice none 0 0, .slice none 0 0] 25)
          have hBel' := hBel.alloc hBel.size (.cells #[.slice none 0 0, .slice none 0 0, .slice none 0 0] 25)
          clear hBel
          have hBel := hBel'
          clear hBel'
          clear hK K
          try simp only [Act.put, List.setIfInBounds_toArray, List.set_cons_zero, List.set_cons_succ]
          generalize hy15 : y12.alloc (.cells #[.slice none 0 0, .slice none 0 0, .slice none 0 0] 25) = y15 at *
          clear hy15
          refine wpAnyT_one (i := 3) rfl (by kernel_rfl) (by rfl) (fun K hK => ?_)
          go_simp
          refine (hc2 y15 hBel).mono ?_
          rintro e y16 ⟨h2, rfl, hO, hBx⟩
          obtain ⟨X21, x21, X22, x22, X23, x23⟩ := h2
          have hBel' := hBel.trans (hBx.mono hBel.size)
          try dsimp only [dfaV, dfaC]
          refine hK _ _ (fun _ _ => hSo _ hBel') ?_
          have s16 := hBx.size
          have q5 := (hBx.block _ (by omega)).trans q5
          have q4 := (hBx.block _ (by omega)).trans q4
          have o1 := o1.below hBx
          have o2 := (DfaW.g hO).bound
          clear hO hBel hBx
          have hBel := hBel'
          clear hBel'
          clear hK K
          try simp only [Act.put, List.setIfInBounds_toArray, List.set_cons_zero, List.set_cons_succ]
          obtain ⟨c0, c1, c2⟩ := cells3 q4
          have cf : ∀ j, y16.frozen? ⟨y12.heap.size, j, none⟩ = false := fun j => frozen_of_row _ _ j _ _ q4
          refine wpAnyT_one (i := 6) rfl (by kernel_rfl) (by rfl) (fun K hK => ?_)
          go_simp
          refine hK _ _ (fun _ _ => hSo _ (((hBel.setCell (p := ⟨y12.heap.size, 0, none⟩) (by show W1.heap.size ≤ y12.heap.size; omega) _).setCell (p := ⟨y12.heap.size, 1, none⟩) (by show W1.heap.size ≤ y12.heap.size; omega) _).setCell (p := ⟨y12.heap.size, 2, none⟩) (by show W1.heap.size ≤ y12.heap.size; omega) _)) ?_
          clear hK K
          try simp only [Act.put, List.setIfInBounds_toArray, List.set_cons_zero, List.set_cons_succ]
          have hne : y12.heap.size ≠ y1.heap.size := by omega
          have r5 := (Below.heap_setCell ((y16.setCell ⟨y12.heap.size, 0, none⟩ (.slice X11 d.cls.length x11)).setCell ⟨y12.heap.size, 1, none⟩ (.slice X12 d.next.length x12)) ⟨y12.heap.size, 2, none⟩ (.slice X13 d.marks.length x13) _ (fun e => hne e.symm)).trans ((Below.heap_setCell (y16.setCell ⟨y12.heap.size, 0, none⟩ (.slice X11 d.cls.length x11)) ⟨y12.heap.size, 1, none⟩ (.slice X12 d.next.length x12) _ (fun e => hne e.symm)).trans ((Below.heap_setCell y16 ⟨y12.heap.size, 0, none⟩ (.slice X11 d.cls.length x11) _ (fun e => hne e.symm)).trans q5))
          obtain ⟨d0, d1, d2⟩ := cells3 r5
          have df := fun j => frozen_of_row _ _ j _ _ r5
          clear c0 c1 c2 cf
          refine wpAnyT_one (i := 7) rfl (by kernel_rfl) (by rfl) (fun K hK => ?_)
          generalize hyz : ((y16.setCell ⟨y12.heap.size, 0, none⟩ (.slice X11 d.cls.length x11)).setCell ⟨y12.heap.size, 1, none⟩ (.slice X12 d.next.length x12)).setCell ⟨y12.heap.size, 2, none⟩ (.slice X13 d.marks.length x13) = yz at *
          have HYZ := Lib.hid hyz
          clear hyz
          go_simp
          refine hK _ _ (no_need (by kernel_rfl)) ?_
          clear hK K
          try simp only [Act.put, List.setIfInBounds_toArray, List.set_cons_zero, List.set_cons_succ]
          refine wpAnyT_done (by kernel_rfl) ?_ _
          refine NoPanic.normal ?_
          clear d0 d1 d2 df
          go_wp2_with fail
          go_meet
          exact ⟨_, _, ⟨X11, x11, X12, x12, X13, x13⟩, ⟨X21, x21, X22, x22, X23, x23⟩, rfl, rfl, two_put2 q4 q5 hne (o1.lower (by omega)) (o2.lower (by omega)) (fun k hk => by omega) (fun k hk => by omega) hBel (by omega) (by omega) _ (by rw [HYZ.out]), by omega, by omega⟩
    · go_simp
      refine hK _ _ (fun _ _ => hSo _ (hBel.alloc hBel.size _)) ?_
      have s17 : y0.heap.size < (y0.alloc (.cells #[.slice none 0 0, .slice none 0 0, .slice none 0 0] 25)).heap.size := by simp
      have q4 := World.alloc_heap_new y0 (.cells #[.slice none 0 0, .slice none 0 0, .slice none 0 0] 25)
      have hBel' := hBel.alloc hBel.size (.cells #[.slice none 0 0, .slice none 0 0, .slice none 0 0] 25)
      clear hBel
      have hBel := hBel'
      clear hBel'
      clear hK K
      try simp only [Act.put, List.setIfInBounds_toArray, List.set_cons_zero, List.set_cons_succ]
      generalize hy17 : y0.alloc (.cells #[.slice none 0 0, .slice none 0 0, .slice none 0 0] 25) = y17 at *
      clear hy17
      refine wpAnyT_two (i := 1) (j := 5) rfl rfl (by kernel_rfl) (by rfl) (by rfl) (fun K hK => ?_) (fun K hK => ?_)
      · go_simp
        refine (hc1 y17 hBel).mono ?_
        rintro e y18 ⟨h1, rfl, hO, hBx⟩
        obtain ⟨X11, x11, X12, x12, X13, x13⟩ := h1
        have hBel' := hBel.trans (hBx.mono hBel.size)
        try dsimp only [dfaV, dfaC]
        refine hK _ _ (fun _ _ => hSo _ hBel') ?_
        have s18 := hBx.size
        have q4 := (hBx.block _ (by omega)).trans q4
        have o1 := (DfaO.g hO).bound
        clear hO hBel hBx
        have hBel := hBel'
        clear hBel'
        clear hK K
        try simp only [Act.put, List.setIfInBounds_toArray, List.set_cons_zero, List.set_cons_succ]
        refine wpAnyT_two (i := 3) (j := 5) rfl rfl (by kernel_rfl) (by rfl) (by rfl) (fun K hK => ?_) (fun K hK => ?_)
        · go_simp
          refine (hc2 y18 hBel).mono ?_
          rintro e y19 ⟨h2, rfl, hO, hBx⟩
          obtain ⟨X21, x21, X22, x22, X23, x23⟩ := h2
          have hBel' := hBel.trans (hBx.mono hBel.size)
          try dsimp only [dfaV, dfaC]
          refine hK _ _ (fun _ _ => hSo _ hBel') ?_
          have s19 := hBx.size
          have q4 := (hBx.block _ (by omega)).trans q4
          have o1 := o1.below hBx
          have o2 := (DfaW.g hO).bound
          clear hO hBel hBx
          have hBel := hBel'
          clear hBel'
          clear hK K
          try simp only [Act.put, List.setIfInBounds_toArray, List.set_cons_zero, List.set_cons_succ]
          refine wpAnyT_one (i := 5) rfl (by kernel_rfl) (by rfl) (fun K hK => ?_)
          go_simp
          refine hK _ _ (fun _ _ => hSo _ (hBel.alloc hBel.size _)) ?_
          have s20 : y19.heap.size < (y19.alloc (.cells #[.slice none 0 0, .slice none 0 0, .slice none 0 0] 42)).heap.size := by simp
          have q4 := (Below.heap_alloc y19 (.cells #[.slice none 0 0, .slice none 0 0, .slice none 0 0] 42) _ (by omega)).trans q4
          have o1 := o1.step (w' := y19.alloc (.cells #[.slice none 0 0, .slice none 0 0, .slice none 0 0] 42)) fun b _ hl => Below.heap_alloc _ _ b hl
          have o2 := o2.step (w' := y19.alloc (.cells #[.slice none 0 0, .slice none 0 0, .slice none 0 0] 42)) fun b _ hl => Below.heap_alloc _ _ b hl
          have q5 := World.alloc_heap_new y19 (.cells #[.slice none 0 0, .slice none 0 0, .slice none 0 0] 42)
          have hBel' := hBel.alloc hBel.size (.cells #[.slice none 0 0, .slice none 0 0, .slice none 0 0] 42)
          clear hBel
          have hBel := hBel'
          clear hBel'
          clear hK K
          try simp only [Act.put, List.setIfInBounds_toArray, List.set_cons_zero, List.set_cons_succ]
          generalize hy20 : y19.alloc (.cells #[.slice none 0 0, .slice none 0 0, .slice none 0 0] 42) = y20 at *
          clear hy20
          obtain ⟨c0, c1, c2⟩ := cells3 q4
          have cf : ∀ j, y20.frozen? ⟨y0.heap.size, j, none⟩ = false := fun j => frozen_of_row _ _ j _ _ q4
          refine wpAnyT_one (i := 6) rfl (by kernel_rfl) (by rfl) (fun K hK => ?_)
          go_simp
          refine hK _ _ (fun _ _ => hSo _ (((hBel.setCell (p := ⟨y0.heap.size, 0, none⟩) (by show W1.heap.size ≤ y0.heap.size; omega) _).setCell (p := ⟨y0.heap.size, 1, none⟩) (by show W1.heap.size ≤ y0.heap.size; omega) _).setCell (p := ⟨y0.heap.size, 2, none⟩) (by show W1.heap.size ≤ y0.heap.size; omega) _)) ?_
          clear hK K
          try simp only [Act.put, List.setIfInBounds_toArray, List.set_cons_zero, List.set_cons_succ]
          have hne : y0.heap.size ≠ y19.heap.size := by omega
          have r5 := (Below.heap_setCell ((y20.setCell ⟨y0.heap.size, 0, none⟩ (.slice X11 d.cls.length x11)).setCell ⟨y0.heap.size, 1, none⟩ (.slice X12 d.next.length x12)) ⟨y0.heap.size, 2, none⟩ (.slice X13 d.marks.length x13) _ (fun e => hne e.symm)).trans ((Below.heap_setCell (y20.setCell ⟨y0.heap.size, 0, none⟩ (.slice X11 d.cls.length x11)) ⟨y0.heap.size, 1, none⟩ (.slice X12 d.next.length x12) _ (fun e => hne e.symm)).trans ((Below.heap_setCell y20 ⟨y0.heap.size, 0, none⟩ (.slice X11 d.cls.length x11) _ (fun e => hne e.symm)).trans q5))
          obtain ⟨d0, d1, d2⟩ := cells3 r5
          have df := fun j => frozen_of_row _ _ j _ _ r5
          clear c0 c1 c2 cf
          refine wpAnyT_one (i := 7) rfl (by kernel_rfl) (by rfl) (fun K hK => ?_)
          generalize hyz : ((y20.setCell ⟨y0.heap.size, 0, none⟩ (.slice X11 d.cls.length x11)).setCell ⟨y0.heap.size, 1, none⟩ (.slice X12 d.next.length x12)).setCell ⟨y0.heap.size, 2, none⟩ (.slice X13 d.marks.length x13) = yz at *
          have HYZ := Lib.hid hyz
          clear hyz
          go_simp
          refine hK _ _ (no_need (by kernel_rfl)) ?_
          clear hK K
          try simp only [Act.put, List.setIfInBounds_toArray, List.set_cons_zero, List.set_cons_succ]
          refine wpAnyT_done (by kernel_rfl) ?_ _
          refine NoPanic.normal ?_
          clear d0 d1 d2 df
          go_wp2_with fail
          go_meet
          exact ⟨_, _, ⟨X11, x11, X12, x12, X13, x13⟩, ⟨X21, x21, X22, x22, X23, x23⟩, rfl, rfl, two_put2 q4 q5 hne (o1.lower (by omega)) (o2.lower (by omega)) (fun k hk => by omega) (fun k hk => by omega) hBel (by omega) (by omega) _ (by rw [HYZ.out]), by omega, by omega⟩
        · go_simp
          refine hK _ _ (fun _ _ => hSo _ (hBel.alloc hBel.size _)) ?_
          have s21 : y18.heap.size < (y18.alloc (.cells #[.slice none 0 0, .slice none 0 0, .slice none 0 0] 42)).heap.size := by simp
          have q4 := (Below.heap_alloc y18 (.cells #[.slice none 0 0, .slice none 0 0, .slice none 0 0] 42) _ (by omega)).trans q4
          have o1 := o1.step (w' := y18.alloc (.cells #[.slice none 0 0, .slice none 0 0, .slice none 0 0] 42)) fun b _ hl => Below.heap_alloc _ _ b hl
          have q5 := World.alloc_heap_new y18 (.cells #[.slice none 0 0, .slice none 0 0, .slice none 0 0] 42)
          have hBel' := hBel.alloc hBel.size (.cells #[.slice none 0 0, .slice none 0 0, .slice none 0 0] 42)
          clear hBel
          have hBel := hBel'
          clear hBel'
          clear hK K
          try simp only [Act.put, List.setIfInBounds_toArray, List.set_cons_zero, List.set_cons_succ]
          generalize hy21 : y18.alloc (.cells #[.slice none 0 0, .slice none 0 0, .slice none 0 0] 42) = y21 at *
          clear hy21
          refine wpAnyT_one (i := 3) rfl (by kernel_rfl) (by rfl) (fun K hK => ?_)
          go_simp
          refine (hc2 y21 hBel).mono ?_
          rintro e y22 ⟨h2, rfl, hO, hBx⟩
          obtain ⟨X21, x21, X22, x22, X23, x23⟩ := h2
          have hBel' := hBel.trans (hBx.mono hBel.size)
          try dsimp only [dfaV, dfaC]
          refine hK _ _ (fun _ _ => hSo _ hBel') ?_
          have s22 := hBx.size
          have q4 := (hBx.block _ (by omega)).trans q4
          have q5 := (hBx.block _ (by omega)).trans q5
          have o1 := o1.below hBx
          have o2 := (DfaW.g hO).bound
          clear hO hBel hBx
          have hBel := hBel'
          clear hBel'
          clear hK K
          try simp only [Act.put, List.setIfInBounds_toArray, List.set_cons_zero, List.set_cons_succ]
          obtain ⟨c0, c1, c2⟩ := cells3 q4
          have cf : ∀ j, y22.frozen? ⟨y0.heap.size, j, none⟩ = false := fun j => frozen_of_row _ _ j _ _ q4
          refine wpAnyT_one (i := 6) rfl (by kernel_rfl) (by rfl) (fun K hK => ?_)
          go_simp
          refine hK _ _ (fun _ _ => hSo _ (((hBel.setCell (p := ⟨y0.heap.size, 0, none⟩) (by show W1.heap.size ≤ y0.heap.size; omega) _).setCell (p := ⟨y0.heap.size, 1, none⟩) (by show W1.heap.size ≤ y0.heap.size; omega) _).setCell (p := ⟨y0.heap.size, 2, none⟩) (by show W1.heap.size ≤ y0.heap.size; omega) _)) ?_
          clear hK K
          try simp only [Act.put, List.setIfInBounds_toArray, List.set_cons_zero, List.set_cons_succ]
          have hne : y0.heap.size ≠ y18.heap.size := by omega
          have r5 := (Below.heap_setCell ((y22.setCell ⟨y0.heap.size, 0, none⟩ (.slice X11 d.cls.length x11)).setCell ⟨y0.heap.size, 1, none⟩ (.slice X12 d.next.length x12)) ⟨y0.heap.size, 2, none⟩ (.slice X13 d.marks.length x13) _ (fun e => hne e.symm)).trans ((Below.heap_setCell (y22.setCell ⟨y0.heap.size, 0, none⟩ (.slice X11 d.cls.length x11)) ⟨y0.heap.size, 1, none⟩ (.slice X12 d.next.length x12) _ (fun e => hne e.symm)).trans ((Below.heap_setCell y22 ⟨y0.heap.size, 0, none⟩ (.slice X11 d.cls.length x11) _ (fun e => hne e.symm)).trans q5))
          obtain ⟨d0, d1, d2⟩ := cells3 r5
          have df := fun j => frozen_of_row _ _ j _ _ r5
          clear c0 c1 c2 cf
          refine wpAnyT_one (i := 7) rfl (by kernel_rfl) (by rfl) (fun K hK => ?_)
          generalize hyz : ((y22.setCell ⟨y0.heap.size, 0, none⟩ (.slice X11 d.cls.length x11)).setCell ⟨y0.heap.size, 1, none⟩ (.slice X12 d.next.length x12)).setCell ⟨y0.heap.size, 2, none⟩ (.slice X13 d.marks.length x13) = yz at *
          have HYZ := Lib.hid hyz
          clear hyz
          go_simp
          refine hK _ _ (no_need (by kernel_rfl)) ?_
          clear hK K
          try simp only [Act.put, List.setIfInBounds_toArray, List.set_cons_zero, List.set_cons_succ]
          refine wpAnyT_done (by kernel_rfl) ?_ _
          refine NoPanic.normal ?_
          clear d0 d1 d2 df
          go_wp2_with fail
          go_meet
          exact ⟨_, _, ⟨X11, x11, X12, x12, X13, x13⟩, ⟨X21, x21, X22, x22, X23, x23⟩, rfl, rfl, two_put2 q4 q5 hne (o1.lower (by omega)) (o2.lower (by omega)) (fun k hk => by omega) (fun k hk => by omega) hBel (by omega) (by omega) _ (by rw [HYZ.out]), by omega, by omega⟩
      · go_simp
        refine hK _ _ (fun _ _ => hSo _ (hBel.alloc hBel.size _)) ?_
        have s23 : y17.heap.size < (y17.alloc (.cells #[.slice none 0 0, .slice none 0 0, .slice none 0 0] 42)).heap.size := by simp
        have q4 := (Below.heap_alloc y17 (.cells #[.slice none 0 0, .slice none 0 0, .slice none 0 0] 42) _ (by omega)).trans q4
        have q5 := World.alloc_heap_new y17 (.cells #[.slice none 0 0, .slice none 0 0, .slice none 0 0] 42)
        have hBel' := hBel.alloc hBel.size (.cells #[.slice none 0 0, .slice none 0 0, .slice none 0 0] 42)
        clear hBel
        have hBel := hBel'
        clear hBel'
        clear hK K
        try simp only [Act.put, List.setIfInBounds_toArray, List.set_cons_zero, List.set_cons_succ]
        generalize hy23 : y17.alloc (.cells #[.slice none 0 0, .slice none 0 0, .slice none 0 0] 42) = y23 at *
        clear hy23
        refine wpAnyT_one (i := 1) rfl (by kernel_rfl) (by rfl) (fun K hK => ?_)
        go_simp
        refine (hc1 y23 hBel).mono ?_
        rintro e y24 ⟨h1, rfl, hO, hBx⟩
        obtain ⟨X11, x11, X12, x12, X13, x13⟩ := h1
        have hBel' := hBel.trans (hBx.mono hBel.size)
        try dsimp only [dfaV, dfaC]
        refine hK _ _ (fun _ _ => hSo _ hBel') ?_
        have s24 := hBx.size
        have q4 := (hBx.block _ (by omega)).trans q4
        have q5 := (hBx.block _ (by omega)).trans q5
        have o1 := (DfaO.g hO).bound
        clear hO hBel hBx
        have hBel := hBel'
        clear hBel'
        clear hK K
        try simp only [Act.put, List.setIfInBounds_toArray, List.set_cons_zero, List.set_cons_succ]
        refine wpAnyT_one (i := 3) rfl (by kernel_rfl) (by rfl) (fun K hK => ?_)
        go_simp
        refine (hc2 y24 hBel).mono ?_
        rintro e y25 ⟨h2, rfl, hO, hBx⟩
        obtain ⟨X21, x21, X22, x22, X23, x23⟩ := h2
        have hBel' := hBel.trans (hBx.mono hBel.size)
        try dsimp only [dfaV, dfaC]
        refine hK _ _ (fun _ _ => hSo _ hBel') ?_
        have s25 := hBx.size
        have q4 := (hBx.block _ (by omega)).trans q4
        have q5 := (hBx.block _ (by omega)).trans q5
        have o1 := o1.below hBx
        have o2 := (DfaW.g hO).bound
        clear hO hBel hBx
        have hBel := hBel'
        clear hBel'
        clear hK K
        try simp only [Act.put, List.setIfInBounds_toArray, List.set_cons_zero, List.set_cons_succ]
        obtain ⟨c0, c1, c2⟩ := cells3 q4
        have cf : ∀ j, y25.frozen? ⟨y0.heap.size, j, none⟩ = false := fun j => frozen_of_row _ _ j _ _ q4
        refine wpAnyT_one (i := 6) rfl (by kernel_rfl) (by rfl) (fun K hK => ?_)
        go_simp
        refine hK _ _ (fun _ _ => hSo _ (((hBel.setCell (p := ⟨y0.heap.size, 0, none⟩) (by show W1.heap.size ≤ y0.heap.size; omega) _).setCell (p := ⟨y0.heap.size, 1, none⟩) (by show W1.heap.size ≤ y0.heap.size; omega) _).setCell (p := ⟨y0.heap.size, 2, none⟩) (by show W1.heap.size ≤ y0.heap.size; omega) _)) ?_
        clear hK K
        try simp only [Act.put, List.setIfInBounds_toArray, List.set_cons_zero, List.set_cons_succ]
        have hne : y0.heap.size ≠ y17.heap.size := by omega
        have r5 := (Below.heap_setCell ((y25.setCell ⟨y0.heap.size, 0, none⟩ (.slice X11 d.cls.length x11)).setCell ⟨y0.heap.size, 1, none⟩ (.slice X12 d.next.length x12)) ⟨y0.heap.size, 2, none⟩ (.slice X13 d.marks.length x13) _ (fun e => hne e.symm)).trans ((Below.heap_setCell (y25.setCell ⟨y0.heap.size, 0, none⟩ (.slice X11 d.cls.length x11)) ⟨y0.heap.size, 1, none⟩ (.slice X12 d.next.length x12) _ (fun e => hne e.symm)).trans ((Below.heap_setCell y25 ⟨y0.heap.size, 0, none⟩ (.slice X11 d.cls.length x11) _ (fun e => hne e.symm)).trans q5))
        obtain ⟨d0, d1, d2⟩ := cells3 r5
        have df := fun j => frozen_of_row _ _ j _ _ r5
        clear c0 c1 c2 cf
        refine wpAnyT_one (i := 7) rfl (by kernel_rfl) (by rfl) (fun K hK => ?_)
        generalize hyz : ((y25.setCell ⟨y0.heap.size, 0, none⟩ (.slice X11 d.cls.length x11)).setCell ⟨y0.heap.size, 1, none⟩ (.slice X12 d.next.length x12)).setCell ⟨y0.heap.size, 2, none⟩ (.slice X13 d.marks.length x13) = yz at *
        have HYZ := Lib.hid hyz
        clear hyz
        go_simp
        refine hK _ _ (no_need (by kernel_rfl)) ?_
        clear hK K
        try simp only [Act.put, List.setIfInBounds_toArray, List.set_cons_zero, List.set_cons_succ]
        refine wpAnyT_done (by kernel_rfl) ?_ _
        refine NoPanic.normal ?_
        clear d0 d1 d2 df
        go_wp2_with fail
        go_meet
        exact ⟨_, _, ⟨X11, x11, X12, x12, X13, x13⟩, ⟨X21, x21, X22, x22, X23, x23⟩, rfl, rfl, two_put2 q4 q5 hne (o1.lower (by omega)) (o2.lower (by omega)) (fun k hk => by omega) (fun k hk => by omega) hBel (by omega) (by omega) _ (by rw [HYZ.out]), by omega, by omega⟩
    · go_simp
      refine hK _ _ (fun _ _ => hSo _ (hBel.alloc hBel.size _)) ?_
      have s26 : y0.heap.size < (y0.alloc (.cells #[.slice none 0 0, .slice none 0 0, .slice none 0 0] 42)).heap.size := by simp
      have q5 := World.alloc_heap_new y0 (.cells #[.slice none 0 0, .slice none 0 0, .slice none 0 0] 42)
      have hBel' := hBel.alloc hBel.size (.cells #[.slice none 0 0, .slice none 0 0, .slice none 0 0] 42)
      clear hBel
      have hBel := hBel'
      clear hBel'
      clear hK K
      try simp only [Act.put, List.setIfInBounds_toArray, List.set_cons_zero, List.set_cons_succ]
      generalize hy26 : y0.alloc (.cells #[.slice none 0 0, .slice none 0 0, .slice none 0 0] 42) = y26 at *
      clear hy26
      refine wpAnyT_two (i := 1) (j := 4) rfl rfl (by kernel_rfl) (by rfl) (by rfl) (fun K hK => ?_) (fun K hK => ?_)
      · go_simp
        refine (hc1 y26 hBel).mono ?_
        rintro e y27 ⟨h1, rfl, hO, hBx⟩
        obtain ⟨X11, x11, X12, x12, X13, x13⟩ := h1
        have hBel' := hBel.trans (hBx.mono hBel.size)
        try dsimp only [dfaV, dfaC]
        refine hK _ _ (fun _ _ => hSo _ hBel') ?_
        have s27 := hBx.size
        have q5 := (hBx.block _ (by omega)).trans q5
        have o1 := (DfaO.g hO).bound
        clear hO hBel hBx
        have hBel := hBel'
        clear hBel'
        clear hK K
        try simp only [Act.put, List.setIfInBounds_toArray, List.set_cons_zero, List.set_cons_succ]
        refine wpAnyT_two (i := 3) (j := 4) rfl rfl (by kernel_rfl) (by rfl) (by rfl) (fun K hK => ?_) (fun K hK => ?_)
        · go_simp
          refine (hc2 y27 hBel).mono ?_
          rintro e y28 ⟨h2, rfl, hO, hBx⟩
          obtain ⟨X21, x21, X22, x22, X23, x23⟩ := h2
          have hBel' := hBel.trans (hBx.mono hBel.size)
          try dsimp only [dfaV, dfaC]
          refine hK _ _ (fun _ _ => hSo _ hBel') ?_
          have s28 := hBx.size
          have q5 := (hBx.block _ (by omega)).trans q5
          have o1 := o1.below hBx
          have o2 := (DfaW.g hO).bound
          clear hO hBel hBx
          have hBel := hBel'
          clear hBel'
          clear hK K
          try simp only [Act.put, List.setIfInBounds_toArray, List.set_cons_zero, List.set_cons_succ]
          refine wpAnyT_one (i := 4) rfl (by kernel_rfl) (by rfl) (fun K hK => ?_)
          go_simp
          refine hK _ _ (fun _ _ => hSo _ (hBel.alloc hBel.size _)) ?_
          have s29 : y28.heap.size < (y28.alloc (.cells #[.slice none 0 0, .slice none 0 0, .slice none 0 0] 25)).heap.size := by simp
          have q5 := (Below.heap_alloc y28 (.cells #[.slice none 0 0, .slice none 0 0, .slice none 0 0] 25) _ (by omega)).trans q5
          have o1 := o1.step (w' := y28.alloc (.cells #[.slice none 0 0, .slice none 0 0, .slice none 0 0] 25)) fun b _ hl => Below.heap_alloc _ _ b hl
          have o2 := o2.step (w' := y28.alloc (.cells #[.slice none 0 0, .slice none 0 0, .slice none 0 0] 25)) fun b _ hl => Below.heap_alloc _ _ b hl
          have q4 := World.alloc_heap_new y28 (.cells #[.slice none 0 0, .slice none 0 0, .slice none 0 0] 25)
          have hBel' := hBel.alloc hBel.size (.cells #[.slice none 0 0, .slice none 0 0, .slice none 0 0] 25)
          clear hBel
          have hBel := hBel'
          clear hBel'
          clear hK K
          try simp only [Act.put, List.setIfInBounds_toArray, List.set_cons_zero, List.set_cons_succ]
          generalize hy29 : y28.alloc (.cells #[.slice none 0 0, .slice none 0 0, .slice none 0 0] 25) = y29 at *
          clear hy29
          obtain ⟨c0, c1, c2⟩ := cells3 q4
          have cf : ∀ j, y29.frozen? ⟨y28.heap.size, j, none⟩ = false := fun j => frozen_of_row _ _ j _ _ q4
          refine wpAnyT_one (i := 6) rfl (by kernel_rfl) (by rfl) (fun K hK => ?_)
          go_simp
          refine hK _ _ (fun _ _ => hSo _ (((hBel.setCell (p := ⟨y28.heap.size, 0, none⟩) (by show W1.heap.size ≤ y28.heap.size; omega) _).setCell (p := ⟨y28.heap.size, 1, none⟩) (by show W1.heap.size ≤ y28.heap.size; omega) _).setCell (p := ⟨y28.heap.size, 2, none⟩) (by show W1.heap.size ≤ y28.heap.size; omega) _)) ?_
          clear hK K
          try simp only [Act.put, List.setIfInBounds_toArray, List.set_cons_zero, List.set_cons_succ]
          have hne : y28.heap.size ≠ y0.heap.size := by omega
          have r5 := (Below.heap_setCell ((y29.setCell ⟨y28.heap.size, 0, none⟩ (.slice X11 d.cls.length x11)).setCell ⟨y28.heap.size, 1, none⟩ (.slice X12 d.next.length x12)) ⟨y28.heap.size, 2, none⟩ (.slice X13 d.marks.length x13) _ (fun e => hne e.symm)).trans ((Below.heap_setCell (y29.setCell ⟨y28.heap.size, 0, none⟩ (.slice X11 d.cls.length x11)) ⟨y28.heap.size, 1, none⟩ (.slice X12 d.next.length x12) _ (fun e => hne e.symm)).trans ((Below.heap_setCell y29 ⟨y28.heap.size, 0, none⟩ (.slice X11 d.cls.length x11) _ (fun e => hne e.symm)).trans q5))
          obtain ⟨d0, d1, d2⟩ := cells3 r5
          have df := fun j => frozen_of_row _ _ j _ _ r5
          clear c0 c1 c2 cf
          refine wpAnyT_one (i := 7) rfl (by kernel_rfl) (by rfl) (fun K hK => ?_)
          generalize hyz : ((y29.setCell ⟨y28.heap.size, 0, none⟩ (.slice X11 d.cls.length x11)).setCell ⟨y28.heap.size, 1, none⟩ (.slice X12 d.next.length x12)).setCell ⟨y28.heap.size, 2, none⟩ (.slice X13 d.marks.length x13) = yz at *
          have HYZ := Lib.hid hyz
          clear hyz
          go_simp
          refine hK _ _ (no_need (by kernel_rfl)) ?_
          clear hK K
          try simp only [Act.put, List.setIfInBounds_toArray, List.set_cons_zero, List.set_cons_succ]
          refine wpAnyT_done (by kernel_rfl) ?_ _
          refine NoPanic.normal ?_
          clear d0 d1 d2 df
          go_wp2_with fail
          go_meet
          exact ⟨_, _, ⟨X11, x11, X12, x12, X13, x13⟩, ⟨X21, x21, X22, x22, X23, x23⟩, rfl, rfl, two_put2 q4 q5 hne (o1.lower (by omega)) (o2.lower (by omega)) (fun k hk => by omega) (fun k hk => by omega) hBel (by omega) (by omega) _ (by rw [HYZ.out]), by omega, by omega⟩
        · go_simp
          refine hK _ _ (fun _ _ => hSo _ (hBel.alloc hBel.size _)) ?_
          have s30 : y27.heap.size < (y27.alloc (.cells #[.slice none 0 0, .slice none 0 0, .slice none 0 0] 25)).heap.size := by simp
          have q5 := (Below.heap_alloc y27 (.cells #[.slice none 0 0, .slice none 0 0, .slice none 0 0] 25) _ (by omega)).trans q5
          have o1 := o1.step (w' := y27.alloc (.cells #[.slice none 0 0, .slice none 0 0, .slice none 0 0] 25)) fun b _ hl => Below.heap_alloc _ _ b hl
          have q4 := World.alloc_heap_new y27 (.cells #[.slice none 0 0, .slice none 0 0, .slice none 0 0] 25)
          have hBel' := hBel.alloc hBel.size (.cells #[.slice none 0 0, .slice none 0 0, .slice none 0 0] 25)
          clear hBel
          have hBel := hBel'
          clear hBel'
          clear hK K
          try simp only [Act.put, List.setIfInBounds_toArray, List.set_cons_zero, List.set_cons_succ]
          generalize hy30 : y27.alloc (.cells #[.slice none 0 0, .slice none 0 0, .slice none 0 0] 25) = y30 at *
          clear hy30
          refine wpAnyT_one (i := 3) rfl (by kernel_rfl) (by rfl) (fun K hK => ?_)
          go_simp
          refine (hc2 y30 hBel).mono ?_
          rintro e y31 ⟨h2, rfl, hO, hBx⟩
          obtain ⟨X21, x21, X22, x22, X23, x23⟩ := h2
          have hBel' := hBel.trans (hBx.mono hBel.size)
          try dsimp only [dfaV, dfaC]
          refine hK _ _ (fun _ _ => hSo _ hBel') ?_
          have s31 := hBx.size
          have q5 := (hBx.block _ (by omega)).trans q5
          have q4 := (hBx.block _ (by omega)).trans q4
          have o1 := o1.below hBx
          have o2 := (DfaW.g hO).bound
          clear hO hBel hBx
          have hBel := hBel'
          clear hBel'
          clear hK K
          try simp only [Act.put, List.setIfInBounds_toArray, List.set_cons_zero, List.set_cons_succ]
          obtain ⟨c0, c1, c2⟩ := cells3 q4
          have cf : ∀ j, y31.frozen? ⟨y27.heap.size, j, none⟩ = false := fun j => frozen_of_row _ _ j _ _ q4
          refine wpAnyT_one (i := 6) rfl (by kernel_rfl) (by rfl) (fun K hK => ?_)
          go_simp
          refine hK _ _ (fun _ _ => hSo _ (((hBel.setCell (p := ⟨y27.heap.size, 0, none⟩) (by show W1.heap.size ≤ y27.heap.size; omega) _).setCell (p := ⟨y27.heap.size, 1, none⟩) (by show W1.heap.size ≤ y27.heap.size; omega) _).setCell (p := ⟨y27.heap.size, 2, none⟩) (by show W1.heap.size ≤ y27.heap.size; omega) _)) ?_
          clear hK K
          try simp only [Act.put, List.setIfInBounds_toArray, List.set_cons_zero, List.set_cons_succ]
          have hne : y27.heap.size ≠ y0.heap.size := by omega
          have r5 := (Below.heap_setCell ((y31.setCell ⟨y27.heap.size, 0, none⟩ (.slice X11 d.cls.length x11)).setCell ⟨y27.heap.size, 1, none⟩ (.slice X12 d.next.length x12)) ⟨y27.heap.size, 2, none⟩ (.slice X13 d.marks.length x13) _ (fun e => hne e.symm)).trans ((Below.heap_setCell (y31.setCell ⟨y27.heap.size, 0, none⟩ (.slice X11 d.cls.length x11)) ⟨y27.heap.size, 1, none⟩ (.slice X12 d.next.length x12) _ (fun e => hne e.symm)).trans ((Below.heap_setCell y31 ⟨y27.heap.size, 0, none⟩ (.slice X11 d.cls.length x11) _ (fun e => hne e.symm)).trans q5))
          obtain ⟨d0, d1, d2⟩ := cells3 r5
          have df := fun j => frozen_of_row _ _ j _ _ r5
          clear c0 c1 c2 cf
          refine wpAnyT_one (i := 7) rfl (by kernel_rfl) (by rfl) (fun K hK => ?_)
          generalize hyz : ((y31.setCell ⟨y27.heap.size, 0, none⟩ (.slice X11 d.cls.length x11)).setCell ⟨y27.heap.size, 1, none⟩ (.slice X12 d.next.length x12)).setCell ⟨y27.heap.size, 2, none⟩ (.slice X13 d.marks.length x13) = yz at *
          have HYZ := Lib.hid hyz
          clear hyz
          go_simp
          refine hK _ _ (no_need (by kernel_rfl)) ?_
          clear hK K
          try simp only [Act.put, List.setIfInBounds_toArray, List.set_cons_zero, List.set_cons_succ]
          refine wpAnyT_done (by kernel_rfl) ?_ _
          refine NoPanic.normal ?_
          clear d0 d1 d2 df
          go_wp2_with fail
          go_meet
          exact ⟨_, _, ⟨X11, x11, X12, x12, X13, x13⟩, ⟨X21, x21, X22, x22, X23, x23⟩, rfl, rfl, two_put2 q4 q5 hne (o1.lower (by omega)) (o2.lower (by omega)) (fun k hk => by omega) (fun k hk => by omega) hBel (by omega) (by omega) _ (by rw [HYZ.out]), by omega, by omega⟩
      · go_simp
        refine hK _ _ (fun _ _ => hSo _ (hBel.alloc hBel.size _)) ?_
        have s32 : y26.heap.size < (y26.alloc (.cells #[.slice none 0 0, .slice none 0 0, .slice none 0 0] 25)).heap.size := by simp
        have q5 := (Below.heap_alloc y26 (.cells #[.slice none 0 0, .slice none 0 0, .slice none 0 0] 25) _ (by omega)).trans q5
        have q4 := World.alloc_heap_new y26 (.cells #[.slice none 0 0, .slice none 0 0, .slice none 0 0] 25)
        have hBel' := hBel.alloc hBel.size (.cells #[.slice none 0 0, .slice none 0 0, .slice none 0 0] 25)
        clear hBel
        have hBel := hBel'
        clear hBel'
        clear hK K
        try simp only [Act.put, List.setIfInBounds_toArray, List.set_cons_zero, List.set_cons_succ]
        generalize hy32 : y26.alloc (.cells #[.slice none 0 0, .slice none 0 0, .slice none 0 0] 25) = y32 at *
        clear hy32
        refine wpAnyT_one (i := 1) rfl (by kernel_rfl) (by rfl) (fun K hK => ?_)
        go_simp
        refine (hc1 y32 hBel).mono ?_
        rintro e y33 ⟨h1, rfl, hO, hBx⟩
        obtain ⟨X11, x11, X12, x12, X13, x13⟩ := h1
        have hBel' := hBel.trans (hBx.mono hBel.size)
        try dsimp only [dfaV, dfaC]
        refine hK _ _ (fun _ _ => hSo _ hBel') ?_
        have s33 := hBx.size
        have q5 := (hBx.block _ (by omega)).trans q5
        have q4 := (hBx.block _ (by omega)).trans q4
        have o1 := (DfaO.g hO).bound
        clear hO hBel hBx
        have hBel := hBel'
        clear hBel'
        clear hK K
        try simp only [Act.put, List.setIfInBounds_toArray, List.set_cons_zero, List.set_cons_succ]
        refine wpAnyT_one (i := 3) rfl (by kernel_rfl) (by rfl) (fun K hK => ?_)
        go_simp
        refine (hc2 y33 hBel).mono ?_
        rintro e y34 ⟨h2, rfl, hO, hBx⟩
        obtain ⟨X21, x21, X22, x22, X23, x23⟩ := h2
        have hBel' := hBel.trans (hBx.mono hBel.size)
        try dsimp only [dfaV, dfaC]
        refine hK _ _ (fun _ _ => hSo _ hBel') ?_
        have s34 := hBx.size
        have q5 := (hBx.block _ (by omega)).trans q5
        have q4 := (hBx.block _ (by omega)).trans q4
        have o1 := o1.below hBx
        have o2 := (DfaW.g hO).bound
        clear hO hBel hBx
        have hBel := hBel'
        clear hBel'
        clear hK K
        try simp only [Act.put, List.setIfInBounds_toArray, List.set_cons_zero, List.set_cons_succ]
        obtain ⟨c0, c1, c2⟩ := cells3 q4
        have cf : ∀ j, y34.frozen? ⟨y26.heap.size, j, none⟩ = false := fun j => frozen_of_row _ _ j _ _ q4
        refine wpAnyT_one (i := 6) rfl (by kernel_rfl) (by rfl) (fun K hK => ?_)
        go_simp
        refine hK _ _ (fun _ _ => hSo _ (((hBel.setCell (p := ⟨y26.heap.size, 0, none⟩) (by show W1.heap.size ≤ y26.heap.size; omega) _).setCell (p := ⟨y26.heap.size, 1, none⟩) (by show W1.heap.size ≤ y26.heap.size; omega) _).setCell (p := ⟨y26.heap.size, 2, none⟩) (by show W1.heap.size ≤ y26.heap.size; omega) _)) ?_
        clear hK K
        try simp only [Act.put, List.setIfInBounds_toArray, List.set_cons_zero, List.set_cons_succ]
        have hne : y26.heap.size ≠ y0.heap.size := by omega
        have r5 := (Below.heap_setCell ((y34.setCell ⟨y26.heap.size, 0, none⟩ (.slice X11 d.cls.length x11)).setCell ⟨y26.heap.size, 1, none⟩ (.slice X12 d.next.length x12)) ⟨y26.heap.size, 2, none⟩ (.slice X13 d.marks.length x13) _ (fun e => hne e.symm)).trans ((Below.heap_setCell (y34.setCell ⟨y26.heap.size, 0, none⟩ (.slice X11 d.cls.length x11)) ⟨y26.heap.size, 1, none⟩ (.slice X12 d.next.length x12) _ (fun e => hne e.symm)).trans ((Below.heap_setCell y34 ⟨y26.heap.size, 0, none⟩ (.slice X11 d.cls.length x11) _ (fun e => hne e.symm)).trans q5))
        obtain ⟨d0, d1, d2⟩ := cells3 r5
        have df := fun j => frozen_of_row _ _ j _ _ r5
        clear c0 c1 c2 cf
        refine wpAnyT_one (i := 7) rfl (by kernel_rfl) (by rfl) (fun K hK => ?_)
        generalize hyz : ((y34.setCell ⟨y26.heap.size, 0, none⟩ (.slice X11 d.cls.length x11)).setCell ⟨y26.heap.size, 1, none⟩ (.slice X12 d.next.length x12)).setCell ⟨y26.heap.size, 2, none⟩ (.slice X13 d.marks.length x13) = yz at *
        have HYZ := Lib.hid hyz
        clear hyz
        go_simp
        refine hK _ _ (no_need (by kernel_rfl)) ?_
        clear hK K
        try simp only [Act.put, List.setIfInBounds_toArray, List.set_cons_zero, List.set_cons_succ]
        refine wpAnyT_done (by kernel_rfl) ?_ _
        refine NoPanic.normal ?_
        clear d0 d1 d2 df
        go_wp2_with fail
        go_meet
        exact ⟨_, _, ⟨X11, x11, X12, x12, X13, x13⟩, ⟨X21, x21, X22, x22, X23, x23⟩, rfl, rfl, two_put2 q4 q5 hne (o1.lower (by omega)) (o2.lower (by omega)) (fun k hk => by omega) (fun k hk => by omega) hBel (by omega) (by omega) _ (by rw [HYZ.out]), by omega, by omega⟩
  case rest =>
    obtain ⟨g7, g8, h1, h2, rfl, rfl, ⟨r7, r8, o1, o2, hB3⟩, l7, l8⟩ := hcut
    obtain ⟨W3, rfl⟩ : ∃ x : World, x = wc := ⟨_, rfl⟩
    have hBw3 := HB1.out.trans (hB3.mono HB1.out.size)
    have M : TlS W3 g7 g8 h1 h2 d := ⟨r7, r8, (DfaG.o o1).reads.mono fun _ _ => trivial, (DfaG.w o2).reads.mono fun _ _ => trivial⟩
    have HM := Lib.hid M
    have HBw := Lib.hid hBw3
    clear r7 r8 o1 o2 hB3 hBw3 M l7 l8 HB1 hc1 hc2 a0 a1 a2 hz1
    obtain ⟨P1, p1, P2, p2, P3, p3⟩ := h1
    obtain ⟨X1, x1, X2, x2, X3, x3⟩ := h2
    have hnt := c_pNot _ d _ W3 HM.out.p
    simp only [dfaV, dfaC] at hnt
    obtain ⟨N, e1, hN⟩ : ∃ N e, notB d = (N, e) := ⟨_, _, rfl⟩
    rw [hN] at hnt
    dsimp only at hnt
    obtain ⟨a0, a1, a2⟩ := cells3 HM.out.r7
    dsimp only at a0 a1 a2
    go_upto_region 2 with (fail)
    go_upto_region 3 with (go_at_call 27; refine hnt.mono ?_; rintro e w4 ⟨h3, rfl, hO4, hB4⟩; obtain ⟨Z1, z1, Z2, z2, Z3, z3⟩ := h3; (try dsimp only))
    refine wp_name fun W4 hW4 => ?_
    have h9 : W4.heap[w4.heap.size]? = some (.cells #[.slice Z1 N.cls.length z1, .slice Z2 N.next.length z2, .slice Z3 N.marks.length z3] 25 (0, 0)) := by rw [← hW4]; exact World.alloc_heap_new w4 _
    have hBB : Below w4.heap.size w4 W4 := by rw [← hW4]; exact (Below.refl _ _).alloc (Nat.le_refl _) _
    have hzW : w4.heap.size < W4.heap.size := by rw [← hW4]; simp
    clear hW4
    have hB34 := hB4.trans (hBB.mono hB4.size)
    have HG4 := Lib.hid ((DfaO.g hO4).bound.below hBB)
    have HR4 := Lib.hid ((hO4.reads.below hBB).mono (G := fun _ => True) fun _ _ => trivial)
    have HM4 := Lib.hid (HM.out.below hB34)
    have HB34 := Lib.hid hB34
    have H9 := Lib.hid h9
    have hz34 := hB4.size
    obtain ⟨g9, hg9⟩ : ∃ g, g = w4.heap.size := ⟨_, rfl⟩
    rw [← hg9] at H9 HG4 hz34 hzW ⊢
    clear hg9 h9 hBB hB34 hB4 hO4 hnt a0 a1 a2
    have HE := Lib.hid (fun W' (hW' : Below W4.heap.size W4 W') => c_empty _ d _ W' (HM4.out.below hW').p)
    have HF := Lib.hid (fun W' (hW' : Below W4.heap.size W4 W') => c_pFirstA _ d _ W' (HM4.out.below hW').p)
    have HCt := Lib.hid (fun W' (hW' : Below W4.heap.size W4 W') => c_pCount _ d n most _ W' (HM4.out.below hW').p)
    simp only [dfaV, dfaC] at HE HF HCt
    have HC7 := Lib.hid (fun W' (hW' : Below W4.heap.size W4 W') => cells3 (HM4.out.below hW').r7)
    have HC8 := Lib.hid (fun W' (hW' : Below W4.heap.size W4 W') => cells3 (HM4.out.below hW').r8)
    obtain ⟨a0, a1, a2⟩ := HC7.out W4 (Below.refl _ _)
    try dsimp only at a0 a1 a2
    obtain ⟨c1, c2, hcb⟩ : ∃ c1 c2, countB d n most = (c1, c2) := ⟨_, _, rfl⟩
    rw [hcb] at HCt
    have HCB := Lib.hid hcb
    have HNB := Lib.hid hN
    clear hcb hN
    have hem := HE.out W4 (Below.refl _ _)
    clear HE
    go_upto_region 4 with (go_at_call 29; refine hem.mono ?_; rintro e w5 ⟨bs5, ok5, er5, hF5, rfl, hB5⟩; obtain ⟨bv, hbv⟩ : ∃ bv, bv = (decide (er5 = 0) && !ok5) := ⟨_, rfl⟩; rw [← hbv]; have HBV := Lib.hid hbv; clear hbv)
    have hfi := HF.out w5 hB5
    obtain ⟨a0, a1, a2⟩ := HC7.out w5 hB5
    try dsimp only at a0 a1 a2
    clear hem HF
    go_upto_region 5 with (go_at_call 26; refine hfi.mono ?_; rintro e w6 ⟨bs6, v6, ok6, er6, hF6, rfl, hO6, hB6⟩; obtain ⟨S6, t6, rfl, -, -, sb6⟩ := hO6.reads)
    have hB46 := hB5.trans (hB6.mono hB5.size)
    have hct := HCt.out w6 hB46
    obtain ⟨a0, a1, a2⟩ := HC7.out w6 hB46
    try dsimp only at a0 a1 a2
    have HO6 := Lib.hid hO6
    have HS6 := Lib.hid sb6
    have e5 := hF5.unique hF6
    simp only [Prod.mk.injEq] at e5
    obtain ⟨rfl, rfl, rfl⟩ := e5
    have HF5 := Lib.hid hF5
    have hz5 := hB5.size
    have hz6 := hB6.size
    clear hfi HCt hF5 hF6 hO6 sb6 hB5 hB6
    go_upto_region 6 with (go_at_call 28; refine hct.mono ?_; rintro e w7 ⟨rfl, hB7⟩)
    have hB47 := hB46.trans (hB7.mono hB46.size)
    have HB47 := Lib.hid hB47
    have HM7 := Lib.hid (HM4.out.below hB47)
    have HO7 := Lib.hid (HO6.out.below hB7)
    have HS7 := Lib.hid (S_below HS6.out hB7)
    have HG7 := Lib.hid (HG4.out.below hB47)
    have HR7 := Lib.hid (HR4.out.below hB47)
    have h97 : W4.heap.size ≤ w7.heap.size := hB47.size
    have H97 := Lib.hid ((hB47.block _ (Nat.lt_of_lt_of_le hzW (Nat.le_refl _))).trans H9.out)
    have hri := c_refRight _ d _ w7 HM7.out.x SA.out
    simp only [dfaV, dfaC] at hri
    have HC7 := Lib.hid (fun W' (hW' : Below w7.heap.size w7 W') => cells3 (HM7.out.below hW').r7)
    have HC8 := Lib.hid (fun W' (hW' : Below w7.heap.size w7 W') => cells3 (HM7.out.below hW').r8)
    have HC9 := Lib.hid (fun W' (hW' : Below w7.heap.size w7 W') => cells3 ((hW'.block _ (Nat.lt_of_lt_of_le hzW h97)).trans H97.out))
    obtain ⟨a0, a1, a2⟩ := HC8.out w7 (Below.refl _ _)
    try dsimp only at a0 a1 a2
    clear hB46 hB47 hB7 hct HO6 HS6 HG4 HR4 HM4 H9
    cases hr : rightB d with
    | false =>
      rw [hr] at hri
      have hN := HNB.out
      have hF5 := HF5.out
      have hcb := HCB.out
      have hbv := HBV.out
      unfold notB at hN
      unfold FirstR at hF5
      unfold countB at hcb
      rw [hr] at hN hF5 hcb
      simp only [Bool.false_eq_true, if_false, Prod.mk.injEq] at hN hF5 hcb
      obtain ⟨rfl, rfl⟩ := hN
      obtain ⟨rfl, rfl, rfl⟩ := hF5
      obtain ⟨rfl, rfl⟩ := hcb
      have hbv' : bv = false := by rw [hbv]; rfl
      clear hbv HBV
      subst hbv'
      have HSM := Lib.hid (fun W' (hW' : Below w7.heap.size w7 W') => c_same _ nilDA noDfa noDfa _ (fun _ => True) W' (HR7.out.below hW') (right_sizes0) ⟨fun h => absurd rfl h, fun h => absurd rfl h, fun h => absurd rfl h⟩)
      simp only [sameD_refl, dfaV, dfaC, nilDA, noDfa, List.length_nil] at HSM HC9 ⊢
      have hBw7 := HBw.out.trans ((HB34.out.trans (HB47.out.mono HB34.out.size)).mono HBw.out.size)
      have HBW := Lib.hid hBw7
      clear hBw7
      go_upto_region 7 with (go_at_call 30; refine hri.mono ?_; rintro e w8 ⟨rfl, hB8⟩)
      obtain ⟨b0, b1, b2⟩ := HC9.out w8 hB8
      have hsm := HSM.out w8 hB8
      clear a0 a1 a2 hri HSM HC9
      go_wp2_with (go_at_call 16; with_reducible refine hsm.mono ?_; rintro e w9 ⟨rfl, hB9⟩)
      go_ret
      exact ⟨rfl, HBW.out.trans ((hB8.trans (hB9.mono hB8.size)).mono HBW.out.size)⟩
    | true =>
      rw [hr] at hri
      have hN := HNB.out
      have hF5 := HF5.out
      have hbv := HBV.out
      unfold notB at hN
      unfold FirstR at hF5
      rw [if_pos hr] at hN hF5
      simp only [Prod.mk.injEq] at hN
      obtain ⟨hNe, rfl⟩ := hN
      obtain ⟨r0, hr0, hre⟩ := hF5
      simp only [Prod.mk.injEq] at hre
      obtain ⟨hbs, hok, rfl⟩ := hre
      have hq1 : (bv == ok5) = false := by rw [hbv]; cases ok5 <;> rfl
      have HFr := Lib.hid (fun (r : Option (List UInt8)) (h : FirstOf d r) => (by rw [hr0.unique h] at hbs hok; exact ⟨hbs.symm, hok.symm⟩ : r.getD [] = bs5 ∧ r.isSome = ok5))
      have HNe := Lib.hid hNe
      have hbl : bs5.length ≤ 9223372036854775807 := by obtain ⟨_, _, _, l1, l2, _⟩ := HO7.out.reads; omega
      clear hbv HBV hr0 hbs hok hNe HNB HF5
      have hcf := fun W' (hW' : Below w7.heap.size w7 W') => c_refFirst _ d _ W' (HM7.out.below hW').x hr
      have HCN := Lib.hid (fun W' (hW' : Below w7.heap.size w7 W') => c_refCount _ d n most _ W' hr (HM7.out.below hW').x)
      simp only [dfaV, dfaC, HCB.out] at hcf HCN
      have hBw7 := HBw.out.trans ((HB34.out.trans (HB47.out.mono HB34.out.size)).mono HBw.out.size)
      have HBW := Lib.hid hBw7
      clear hBw7
      go_upto_region 8 with (go_at_call 30; refine hri.mono ?_; rintro e w8 ⟨rfl, hB8⟩)
      obtain ⟨a0, a1, a2⟩ := HC8.out w8 hB8
      try dsimp only at a0 a1 a2
      have hff := hcf w8 hB8
      clear hri hcf
      go_upto_region 9 with (go_at_call 31; refine hff.mono ?_; rintro e w9 ⟨r, v9, hF9, rfl, hO9, hB9⟩; obtain ⟨eb, eo⟩ := HFr.out r hF9; rw [eb] at hO9; rw [eo]; obtain ⟨S9, t9, rfl, -, -, sb9⟩ := hO9.reads; clear eb eo hF9)
      have hB79 := hB8.trans (hB9.mono hB8.size)
      have hcn := HCN.out w9 hB79
      obtain ⟨a0, a1, a2⟩ := HC8.out w9 hB79
      try dsimp only at a0 a1 a2
      have HS9 := Lib.hid sb9
      clear hff hB8 hB9 HCN hO9 sb9
      go_upto_region 10 with (go_at_call 32; refine hcn.mono ?_; rintro e w10 ⟨rfl, hB10⟩)
      have hB710 := hB79.trans (hB10.mono hB79.size)
      have HS10 := Lib.hid (S_below HS9.out hB10)
      have HB710 := Lib.hid hB710
      have HM10 := Lib.hid (HM7.out.below hB710)
      have hz710 := hB710.size
      obtain ⟨a0, a1, a2⟩ := HC8.out w10 hB710
      obtain ⟨b0, b1, b2⟩ := HC9.out w10 hB710
      try dsimp only at a0 a1 a2 b0 b1 b2
      have hnt := fun W' (hW' : Below w10.heap.size w10 W') => c_refNot _ d _ W' (HM10.out.below hW').x.t3 (by have := right_len hr; omega)
      simp only [dfaV, dfaC, List.length_map] at hnt
      have HSB6 := Lib.hid (fun W' (hW' : Below w10.heap.size w10 W') => c_bytesEqual S6 S9 t6 t9 bs5 bs5 _ _ W' (S_below HS7.out (hB710.trans (hW'.mono hB710.size))) (S_below HS10.out hW'))
      simp only [decide_true] at HSB6
      clear hcn hB79 hB10 HS9 hB710
      obtain ⟨SS, hSS⟩ : ∃ S : World → Prop, S = fun w' => Below w10.heap.size w10 w' := ⟨_, rfl⟩
      have hSi : ∀ W', SS W' → Below w10.heap.size w10 W' := fun W' h => by rw [hSS] at h; exact h
      have hSo : ∀ W', Below w10.heap.size w10 W' → SS W' := fun W' h => by rw [hSS]; exact h
      clear hSS
      have hS : SS w10.drew := hSo _ (Below.refl _ _).drew
      refine wp_region_noPanic (wp_region_T SS [7, 8] (by kernel_rfl) ?_)
      refine wpAnyT_takeY (i := 0) (v := ?v0_3) rfl (by kernel_rfl) (by kernel_rfl) (by kernel_rfl) (fun _ _ _ h => h) (by rfl) ?hy0_3 ?r0_3
      case hy0_3 => (intro w; go_simp; try (with_reducible rfl))
      case r0_3 =>
      try simp only [Act.put, List.setIfInBounds_toArray, List.set_cons_zero, List.set_cons_succ]
      refine wpAnyT_takeY (i := 1) (v := ?v1_4) rfl (by kernel_rfl) (by kernel_rfl) (by kernel_rfl) (fun _ _ _ h => h) (by rfl) ?hy1_4 ?r1_4
      case hy1_4 => (intro w; go_simp; try (with_reducible rfl))
      case r1_4 =>
      try simp only [Act.put, List.setIfInBounds_toArray, List.set_cons_zero, List.set_cons_succ]
      refine wpAnyT_takeY (i := 2) (v := ?v2_5) rfl (by kernel_rfl) (by kernel_rfl) (by kernel_rfl) (fun _ _ _ h => h) (by rfl) ?hy2_5 ?r2_5
      case hy2_5 => (intro w; go_simp; try (with_reducible rfl))
      case r2_5 =>
      try simp only [Act.put, List.setIfInBounds_toArray, List.set_cons_zero, List.set_cons_succ]
      refine wpAnyT_takeY (i := 3) (v := ?v3_6) rfl (by kernel_rfl) (by kernel_rfl) (by kernel_rfl) (fun _ _ _ h => h) (by rfl) ?hy3_6 ?r3_6
      case hy3_6 => (intro w; go_simp; try (with_reducible rfl))
      case r3_6 =>
      try simp only [Act.put, List.setIfInBounds_toArray, List.set_cons_zero, List.set_cons_succ]
      refine wpAnyT_takeY (i := 4) (v := ?v4_7) rfl (by kernel_rfl) (by kernel_rfl) (by kernel_rfl) (fun _ _ _ h => h) (by rfl) ?hy4_7 ?r4_7
      case hy4_7 => (intro w; go_simp; try (with_reducible rfl))
      case r4_7 =>
      try simp only [Act.put, List.setIfInBounds_toArray, List.set_cons_zero, List.set_cons_succ]
      refine wpAnyT_takeY (i := 5) (v := ?v5_8) rfl (by kernel_rfl) (by kernel_rfl) (by kernel_rfl) (fun _ _ _ h => h) (by rfl) ?hy5_8 ?r5_8
      case hy5_8 => (intro w; go_simp; try (with_reducible rfl))
      case r5_8 =>
      try simp only [Act.put, List.setIfInBounds_toArray, List.set_cons_zero, List.set_cons_succ]
      refine wpAnyT_takeY (i := 6) (v := ?v6_9) rfl (by kernel_rfl) (by kernel_rfl) (by kernel_rfl) (fun _ _ _ h => h) (by rfl) ?hy6_9 ?r6_9
      case hy6_9 => (intro w; go_simp; try (with_reducible rfl))
      case r6_9 =>
      try simp only [Act.put, List.setIfInBounds_toArray, List.set_cons_zero, List.set_cons_succ]
      refine wpAnyT_take (i := 7) (v := ?v7_10) rfl rfl (by kernel_rfl) (by kernel_rfl) (by kernel_rfl) (fun _ _ _ h => h) (by rfl) hS ?hy7_10 ?r7_10
      case hy7_10 => (intro w hSw; have e0 := bcellS (hSi _ hSw) a0; have e1 := bcellS (hSi _ hSw) a1; have e2 := bcellS (hSi _ hSw) a2; have f0 := bcellS (hSi _ hSw) b0; have f1 := bcellS (hSi _ hSw) b1; have f2 := bcellS (hSi _ hSw) b2; (try dsimp only at hSw); go_simp; try (with_reducible rfl))
      case r7_10 =>
      try simp only [Act.put, List.setIfInBounds_toArray, List.set_cons_zero, List.set_cons_succ]
      refine wpAnyT_take (i := 8) (v := ?v8_11) rfl rfl (by kernel_rfl) (by kernel_rfl) (by kernel_rfl) (fun _ _ _ h => h) (by rfl) hS ?hy8_11 ?r8_11
      case hy8_11 => (intro w hSw; have e0 := bcellS (hSi _ hSw) a0; have e1 := bcellS (hSi _ hSw) a1; have e2 := bcellS (hSi _ hSw) a2; have f0 := bcellS (hSi _ hSw) b0; have f1 := bcellS (hSi _ hSw) b1; have f2 := bcellS (hSi _ hSw) b2; (try dsimp only at hSw); go_simp; try (with_reducible rfl))
      case r8_11 =>
      try simp only [Act.put, List.setIfInBounds_toArray, List.set_cons_zero, List.set_cons_succ]
      refine wpAnyT_one (i := 9) rfl (by kernel_rfl) (by rfl) (fun K hK => ?_)
      go_simp
      have hBd : Below w10.heap.size w10 w10.drew := (Below.refl _ _).drew
      refine (hnt _ hBd).mono ?_
      rintro e w11 ⟨A3', c3, rfl, hO11, hB11⟩
      try dsimp only
      have hB1 := hBd.trans (hB11.mono hBd.size)
      refine hK _ _ (fun _ _ => hSo _ hB1) ?_
      clear hK K
      try simp only [Act.put, List.setIfInBounds_toArray, List.set_cons_zero, List.set_cons_succ]
      obtain ⟨Q3, q3, e3, _, _, s3⟩ := hO11.reads
      obtain ⟨rfl, -, -⟩ := slice_inj e3
      have hTx : DfaT w11 (fun _ => True) ⟨X1, x1, X2, x2, A3', c3⟩ ⟨d.cls, d.next, d.marks.map notM⟩ := ⟨(HM10.out.below hB1).x.t1, (HM10.out.below hB1).x.t2, (S_forget s3).mono fun _ _ => trivial⟩
      have hsm := c_same ⟨Z1, z1, Z2, z2, Z3, z3⟩ _ N _ _ _ w11 (HR7.out.below (HB710.out.trans (hB1.mono HB710.out.size))) (by rw [← HNe.out]; exact not_sizes SA.out) hTx
      rw [show sameD N ⟨d.cls, d.next, d.marks.map notM⟩ = true from by rw [HNe.out]; exact sameD_refl N] at hsm
      simp only [dfaV, dfaC, List.length_map] at hsm
      clear hTx s3 e3 hO11 hB11 hnt a0 a1 a2 b0 b1 b2 hS hSi
      refine wpAnyT_one (i := 10) rfl (by kernel_rfl) (by rfl) (fun K hK => ?_)
      go_simp
      refine hsm.mono ?_
      rintro e w12 ⟨rfl, hB12⟩
      try dsimp only
      have hB2 := hB1.trans (hB12.mono hB1.size)
      refine hK _ _ (fun _ _ => hSo _ hB2) ?_
      clear hK K
      try simp only [Act.put, List.setIfInBounds_toArray, List.set_cons_zero, List.set_cons_succ]
      clear hsm hB1 hB12 hBd
      have hbe := HSB6.out w12 hB2
      refine wpAnyT_takeY (i := 11) (v := ?v11_12) rfl (by kernel_rfl) (by kernel_rfl) (by kernel_rfl) (fun _ _ _ h => h) (by rfl) ?hy11_12 ?r11_12
      case hy11_12 => (intro w; go_simp; try (with_reducible rfl))
      case r11_12 =>
      try simp only [Act.put, List.setIfInBounds_toArray, List.set_cons_zero, List.set_cons_succ]
      refine wpAnyT_takeY (i := 12) (v := ?v12_13) rfl (by kernel_rfl) (by kernel_rfl) (by kernel_rfl) (fun _ _ _ h => h) (by rfl) ?hy12_13 ?r12_13
      case hy12_13 => (intro w; go_simp; try (with_reducible rfl))
      case r12_13 =>
      try simp only [Act.put, List.setIfInBounds_toArray, List.set_cons_zero, List.set_cons_succ]
      refine wpAnyT_takeY (i := 13) (v := ?v13_14) rfl (by kernel_rfl) (by kernel_rfl) (by kernel_rfl) (fun _ _ _ h => h) (by rfl) ?hy13_14 ?r13_14
      case hy13_14 => (intro w; go_simp; try (with_reducible rfl))
      case r13_14 =>
      try simp only [Act.put, List.setIfInBounds_toArray, List.set_cons_zero, List.set_cons_succ]
      refine wpAnyT_takeY (i := 14) (v := ?v14_15) rfl (by kernel_rfl) (by kernel_rfl) (by kernel_rfl) (fun _ _ _ h => h) (by rfl) ?hy14_15 ?r14_15
      case hy14_15 => (intro w; go_simp; try (with_reducible rfl))
      case r14_15 =>
      try simp only [Act.put, List.setIfInBounds_toArray, List.set_cons_zero, List.set_cons_succ]
      refine wpAnyT_takeY (i := 15) (v := ?v15_16) rfl (by kernel_rfl) (by kernel_rfl) (by kernel_rfl) (fun _ _ _ h => h) (by rfl) ?hy15_16 ?r15_16
      case hy15_16 => (intro w; go_simp; try (with_reducible rfl))
      case r15_16 =>
      try simp only [Act.put, List.setIfInBounds_toArray, List.set_cons_zero, List.set_cons_succ]
      refine wpAnyT_takeY (i := 16) (v := ?v16_17) rfl (by kernel_rfl) (by kernel_rfl) (by kernel_rfl) (fun _ _ _ h => h) (by rfl) ?hy16_17 ?r16_17
      case hy16_17 => (intro w; go_simp; try (with_reducible rfl))
      case r16_17 =>
      try simp only [Act.put, List.setIfInBounds_toArray, List.set_cons_zero, List.set_cons_succ]
      refine wpAnyT_takeY (i := 17) (v := ?v17_18) rfl (by kernel_rfl) (by kernel_rfl) (by kernel_rfl) (fun _ _ _ h => h) (by rfl) ?hy17_18 ?r17_18
      case hy17_18 => (intro w; go_simp; try (with_reducible rfl))
      case r17_18 =>
      try simp only [Act.put, List.setIfInBounds_toArray, List.set_cons_zero, List.set_cons_succ]
      refine wpAnyT_takeY (i := 18) (v := ?v18_19) rfl (by kernel_rfl) (by kernel_rfl) (by kernel_rfl) (fun _ _ _ h => h) (by rfl) ?hy18_19 ?r18_19
      case hy18_19 => (intro w; go_simp; try (with_reducible rfl))
      case r18_19 =>
      try simp only [Act.put, List.setIfInBounds_toArray, List.set_cons_zero, List.set_cons_succ]
      refine wpAnyT_takeY (i := 19) (v := ?v19_20) rfl (by kernel_rfl) (by kernel_rfl) (by kernel_rfl) (fun _ _ _ h => h) (by rfl) ?hy19_20 ?r19_20
      case hy19_20 => (intro w; go_simp; try (with_reducible rfl))
      case r19_20 =>
      try simp only [Act.put, List.setIfInBounds_toArray, List.set_cons_zero, List.set_cons_succ]
      refine wpAnyT_takeY (i := 20) (v := ?v20_21) rfl (by kernel_rfl) (by kernel_rfl) (by kernel_rfl) (fun _ _ _ h => h) (by rfl) ?hy20_21 ?r20_21
      case hy20_21 => (intro w; go_simp; try (with_reducible rfl))
      case r20_21 =>
      try simp only [Act.put, List.setIfInBounds_toArray, List.set_cons_zero, List.set_cons_succ]
      refine wpAnyT_one (i := 21) rfl (by kernel_rfl) (by rfl) (fun K hK => ?_)
      go_simp
      refine hbe.mono ?_
      rintro e w13 ⟨rfl, rfl⟩
      try dsimp only
      refine hK _ _ (fun _ h => h) ?_
      clear hK K
      try simp only [Act.put, List.setIfInBounds_toArray, List.set_cons_zero, List.set_cons_succ]
      clear hbe HSB6
      refine wpAnyT_takeY (i := 22) (v := ?v22_22) rfl (by kernel_rfl) (by kernel_rfl) (by kernel_rfl) (fun _ _ _ h => h) (by rfl) ?hy22_22 ?r22_22
      case hy22_22 => (intro w; go_simp; try (with_reducible rfl))
      case r22_22 =>
      try simp only [Act.put, List.setIfInBounds_toArray, List.set_cons_zero, List.set_cons_succ]
      refine wpAnyT_takeY (i := 23) (v := ?v23_23) rfl (by kernel_rfl) (by kernel_rfl) (by kernel_rfl) (fun _ _ _ h => h) (by rfl) ?hy23_23 ?r23_23
      case hy23_23 => (intro w; go_simp; try (with_reducible rfl))
      case r23_23 =>
      try simp only [Act.put, List.setIfInBounds_toArray, List.set_cons_zero, List.set_cons_succ]
      refine wpAnyT_takeY (i := 24) (v := ?v24_24) rfl (by kernel_rfl) (by kernel_rfl) (by kernel_rfl) (fun _ _ _ h => h) (by rfl) ?hy24_24 ?r24_24
      case hy24_24 => (intro w; go_simp; try (with_reducible rfl))
      case r24_24 =>
      try simp only [Act.put, List.setIfInBounds_toArray, List.set_cons_zero, List.set_cons_succ]
      refine wpAnyT_takeY (i := 25) (v := ?v25_25) rfl (by kernel_rfl) (by kernel_rfl) (by kernel_rfl) (fun _ _ _ h => h) (by rfl) ?hy25_25 ?r25_25
      case hy25_25 => (intro w; go_simp; try (with_reducible rfl))
      case r25_25 =>
      try simp only [Act.put, List.setIfInBounds_toArray, List.set_cons_zero, List.set_cons_succ]
      refine wpAnyT_takeY (i := 26) (v := ?v26_26) rfl (by kernel_rfl) (by kernel_rfl) (by kernel_rfl) (fun _ _ _ h => h) (by rfl) ?hy26_26 ?r26_26
      case hy26_26 => (intro w; go_simp; try (with_reducible rfl))
      case r26_26 =>
      try simp only [Act.put, List.setIfInBounds_toArray, List.set_cons_zero, List.set_cons_succ]
      refine wpAnyT_takeY (i := 27) (v := ?v27_27) rfl (by kernel_rfl) (by kernel_rfl) (by kernel_rfl) (fun _ _ _ h => h) (by rfl) ?hy27_27 ?r27_27
      case hy27_27 => (intro w; go_simp; try (with_reducible rfl))
      case r27_27 =>
      try simp only [Act.put, List.setIfInBounds_toArray, List.set_cons_zero, List.set_cons_succ]
      refine wpAnyT_takeY (i := 28) (v := ?v28_28) rfl (by kernel_rfl) (by kernel_rfl) (by kernel_rfl) (fun _ _ _ h => h) (by rfl) ?hy28_28 ?r28_28
      case hy28_28 => (intro w; go_simp; try (with_reducible rfl))
      case r28_28 =>
      try simp only [Act.put, List.setIfInBounds_toArray, List.set_cons_zero, List.set_cons_succ]
      refine wpAnyT_takeY (i := 29) (v := ?v29_29) rfl (by kernel_rfl) (by kernel_rfl) (by kernel_rfl) (fun _ _ _ h => h) (by rfl) ?hy29_29 ?r29_29
      case hy29_29 => (intro w; go_simp; try (with_reducible rfl))
      case r29_29 =>
      try simp only [Act.put, List.setIfInBounds_toArray, List.set_cons_zero, List.set_cons_succ]
      refine wpAnyT_takeY (i := 30) (v := ?v30_30) rfl (by kernel_rfl) (by kernel_rfl) (by kernel_rfl) (fun _ _ _ h => h) (by rfl) ?hy30_30 ?r30_30
      case hy30_30 => (intro w; go_simp; try (with_reducible rfl))
      case r30_30 =>
      try simp only [Act.put, List.setIfInBounds_toArray, List.set_cons_zero, List.set_cons_succ]
      refine wpAnyT_takeY (i := 31) (v := ?v31_31) rfl (by kernel_rfl) (by kernel_rfl) (by kernel_rfl) (fun _ _ _ h => h) (by rfl) ?hy31_31 ?r31_31
      case hy31_31 => (intro w; go_simp; try (with_reducible rfl))
      case r31_31 =>
      try simp only [Act.put, List.setIfInBounds_toArray, List.set_cons_zero, List.set_cons_succ]
      refine wpAnyT_takeY (i := 32) (v := ?v32_32) rfl (by kernel_rfl) (by kernel_rfl) (by kernel_rfl) (fun _ _ _ h => h) (by rfl) ?hy32_32 ?r32_32
      case hy32_32 => (intro w; go_simp; try (with_reducible rfl))
      case r32_32 =>
      try simp only [Act.put, List.setIfInBounds_toArray, List.set_cons_zero, List.set_cons_succ]
      refine wpAnyT_takeY (i := 33) (v := ?v33_33) rfl (by kernel_rfl) (by kernel_rfl) (by kernel_rfl) (fun _ _ _ h => h) (by rfl) ?hy33_33 ?r33_33
      case hy33_33 => (intro w; go_simp; try (with_reducible rfl))
      case r33_33 =>
      try simp only [Act.put, List.setIfInBounds_toArray, List.set_cons_zero, List.set_cons_succ]
      refine wpAnyT_takeY (i := 34) (v := ?v34_34) rfl (by kernel_rfl) (by kernel_rfl) (by kernel_rfl) (fun _ _ _ h => h) (by rfl) ?hy34_34 ?r34_34
      case hy34_34 => (intro w; go_simp; try (with_reducible rfl))
      case r34_34 =>
      try simp only [Act.put, List.setIfInBounds_toArray, List.set_cons_zero, List.set_cons_succ]
      refine wpAnyT_takeY (i := 35) (v := ?v35_35) rfl (by kernel_rfl) (by kernel_rfl) (by kernel_rfl) (fun _ _ _ h => h) (by rfl) ?hy35_35 ?r35_35
      case hy35_35 => (intro w; go_simp; try (with_reducible rfl))
      case r35_35 =>
      try simp only [Act.put, List.setIfInBounds_toArray, List.set_cons_zero, List.set_cons_succ]
      refine wpAnyT_takeY (i := 36) (v := ?v36_36) rfl (by kernel_rfl) (by kernel_rfl) (by kernel_rfl) (fun _ _ _ h => h) (by rfl) ?hy36_36 ?r36_36
      case hy36_36 => (intro w; go_simp; try (with_reducible rfl))
      case r36_36 =>
      try simp only [Act.put, List.setIfInBounds_toArray, List.set_cons_zero, List.set_cons_succ]
      refine wpAnyT_takeY (i := 37) (v := ?v37_37) rfl (by kernel_rfl) (by kernel_rfl) (by kernel_rfl) (fun _ _ _ h => h) (by rfl) ?hy37_37 ?r37_37
      case hy37_37 => (intro w; go_simp; try (with_reducible rfl))
      case r37_37 =>
      try simp only [Act.put, List.setIfInBounds_toArray, List.set_cons_zero, List.set_cons_succ]
      refine wpAnyT_takeY (i := 38) (v := ?v38_38) rfl (by kernel_rfl) (by kernel_rfl) (by kernel_rfl) (fun _ _ _ h => h) (by rfl) ?hy38_38 ?r38_38
      case hy38_38 => (intro w; go_simp; try (with_reducible rfl))
      case r38_38 =>
      try simp only [Act.put, List.setIfInBounds_toArray, List.set_cons_zero, List.set_cons_succ]
      refine wpAnyT_done (by kernel_rfl) ?_ _
      refine NoPanic.normal ?_
      have hB712 := HB710.out.trans (hB2.mono HB710.out.size)
      have HG12 := Lib.hid (HG7.out.below hB712)
      have HO12 := Lib.hid (HO7.out.below hB712)
      have hB312 : Below W3.heap.size W3 w12 := HB34.out.trans ((HB47.out.trans (hB712.mono HB47.out.size)).mono HB34.out.size)
      have HB312 := Lib.hid hB312
      have hz312 := hB312.size
      have hz712 := hB712.size
      have hsp := c_spoil ⟨Z1, z1, Z2, z2, Z3, z3⟩ N W3.heap.size _ w12 HG12.out.o1 HG12.out.o2 HG12.out.o3 (by rw [← HNe.out]; exact not_sizes SA.out)
      simp only [dfaV, dfaC] at hsp
      obtain ⟨b0, b1, b2⟩ := HC9.out w12 hB712
      clear hB712 hB312 hB2 hSo HC7 HC8 HC9 a0 a1 a2 hq1 hr HFr HCB HS10 HB710 HM10 HG7 HR7 H97 HM7 HO7 HS7
      go_upto_region 13 with (go_at_call 23; refine hsp.mono ?_; rintro e w14 ⟨rfl, hK14⟩)
      have hU14 := HO12.out.keep hK14 (fun k hk _ e => by have h1 : w5.heap.size ≤ k := hk; have h2 : W3.heap.size ≤ k ∧ k < g9 := e; omega)
      have HK14 := Lib.hid hK14
      have hzk := hK14.size
      clear hK14 b0 b1 b2 hsp HO12 HG12
      go_wp2
      go_loopg [142] (bs5.length + 1) (fun gk vk wr => ∃ (j : Nat) (us : List UInt8), vk = .int .i64 (j : Int) ∧ j ≤ bs5.length ∧ gk + j = bs5.length + 1 ∧ us.length = bs5.length ∧ OwnS Kbyte 5 wr w5.heap.size (fun k => w5.heap.size ≤ k) (.slice S6 bs5.length t6) us ∧ Kp (fun k => w5.heap.size ≤ k) w14 wr)
      case atStart => exact ⟨0, bs5, rfl, by omega, by omega, rfl, hU14, Kp.refl _ _⟩
      case round =>
        obtain ⟨j, us, rfl, hj, hgk, hul, hO, hK⟩ := hrel
        have HG2 := Lib.hid hgk
        have hj0 : (0 : Int) ≤ j := by omega
        clear hgk hU14
        by_cases hlj : j < bs5.length
        · have hlj' : (j : Int) < bs5.length := by omega
          obtain ⟨gu, cu, eu⟩ := hO.form (fun e => by rw [e] at hul; simp at hul; omega)
          obtain ⟨rfl, -, -⟩ := slice_inj eu
          have hju : j < us.length := by omega
          obtain ⟨e0, ef, -, hgB, -, -⟩ := hO.at1 (i := j) (List.getElem?_eq_getElem hju)
          have ef0 := ef j
          have hx := xor255 us[j]
          have hset := hO.set (enc := byteV) (i := j) hju (x := UInt8.ofNat (255 - us[j].toNat)) trivial
          have HSET := Lib.hid hset
          have HUL := Lib.hid hul
          have HK := Lib.hid hK
          clear hset hul hK hO ef eu
          generalize us[j] = uj at *
          try simp only [byteV] at e0
          go_wp2
          go_roundg (gk - 1)
          case measure => have := HG2.out; omega
          case rel =>
            refine ⟨j + 1, us.set j (UInt8.ofNat (255 - uj.toNat)), by go_num, by omega, by have := HG2.out; omega, by rw [List.length_set]; exact HUL.out, ?_, HK.out.setCell ⟨gu, j, none⟩ hgB _⟩
            exact HSET.out
        · obtain rfl : j = bs5.length := by omega
          have hge : ¬ ((bs5.length : Int) < bs5.length) := by omega
          have h2 : Below W3.heap.size w12 w14 := HK14.out.below hz312 (fun k hk e => by have : W3.heap.size ≤ k ∧ k < g9 := e; omega)
          have h3 : Below W3.heap.size w14 wr := hK.below (by omega) (fun k hk e => by omega)
          have hB3r := (HB312.out.trans h2).trans h3
          have HMr := Lib.hid (HM.out.below hB3r)
          have HBr := Lib.hid (HBw.out.trans (hB3r.mono HBw.out.size))
          have hsm := c_same _ _ d d _ _ wr HMr.out.p SA.out HMr.out.x
          simp only [sameD_refl, dfaV, dfaC] at hsm
          obtain ⟨a0, a1, a2⟩ := cells3 HMr.out.r7
          obtain ⟨b0, b1, b2⟩ := cells3 HMr.out.r8
          try dsimp only at a0 a1 a2 b0 b1 b2
          clear hO hK h2 h3 hB3r
          go_wp2_with (go_at_call 16; refine hsm.mono ?_; rintro e w15 ⟨rfl, hB15⟩)
          go_ret
          exact ⟨rfl, HBr.out.trans (hB15.mono HBr.out.size)⟩
theorem c_tells (h : DA) (d : Dfa) (n most : Int) (F : Nat → Prop) (w : World) (ra : DfaR w F h d) (sa : DfaS d) :
    Calls Tryz.prog 9 #[dfaV h d, .int .i64 n, .int .i64 most] w fun e w' => e = .returned (.bool true) ∧ Below w.heap.size w w' := by
  obtain ⟨A1, k1, A2, k2, A3, k3⟩ := h
  exact c_tells0 A1 A2 A3 k1 k2 k3 d n most F w ra sa
end Go.Proofs
