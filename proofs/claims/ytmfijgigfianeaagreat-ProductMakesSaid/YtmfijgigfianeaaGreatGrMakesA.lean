/- The first part of makes: copies, and automata for the reference. -/
import Derived.Test.YtmfijgigfianeaaGreatGrMk
import Derived.Deep.DeepCutAuto
set_option linter.unusedVariables false
set_option linter.unusedSimpArgs false
namespace Go.Proofs
open Go.RowKit Go.Shelf Rp Go.Maps
attribute [local go_sem] Oper.semAt_some
set_option maxRecDepth 100000 in
set_option maxHeartbeats 12800000 in
theorem c_makes0 (A1 A2 A3 B1 B2 B3 : Option Addr) (k1 k2 k3 m1 m2 m3 : Nat) (a b : Dfa) (op : Nat) (fuel : Int) (F G : Nat → Prop) (w : World) (hop : op < 256) (ra : DfaR w F ⟨A1, k1, A2, k2, A3, k3⟩ a) (rb : DfaR w G ⟨B1, m1, B2, m2, B3, m3⟩ b) (sa : DfaS a) (sb : DfaS b) :
    Calls Tryz.prog 7 #[.agg #[.slice A1 a.cls.length k1, .slice A2 a.next.length k2, .slice A3 a.marks.length k3], .agg #[.slice B1 b.cls.length m1, .slice B2 b.next.length m2, .slice B3 b.marks.length m3], .int .u8 (op : Int), .int .i64 fuel] w
      fun e w' => e = .returned (.bool true) ∧ Below w.heap.size w w' := by
  have hcA := fun W' (hW' : Below w.heap.size w W') => c_copy ⟨A1, k1, A2, k2, A3, k3⟩ a F W' (ra.below hW') sa
  have hcB := fun W' (hW' : Below w.heap.size w W') => c_copy ⟨B1, m1, B2, m2, B3, m3⟩ b G W' (rb.below hW') sb
  have htA := fun W' (hW' : Below w.heap.size w W') => c_theirs ⟨A1, k1, A2, k2, A3, k3⟩ a F W' (ra.below hW') sa
  have htB := fun W' (hW' : Below w.heap.size w W') => c_theirs ⟨B1, m1, B2, m2, B3, m3⟩ b G W' (rb.below hW') sb
  simp only [dfaV, dfaC] at hcA hcB htA htB
  have SA := Lib.hid sa
  have SB := Lib.hid sb
  clear ra rb sa sb
  go_enter Tryz.func7, Tryz.ntmps7
  go_upto_region 1 with (fail)
  refine wp_name fun W1 hW1 => ?_
  have q0 : W1.heap[w.heap.size]? = some (.cells #[.slice A1 a.cls.length k1, .slice A2 a.next.length k2, .slice A3 a.marks.length k3] 25 (0, 0)) := by
    rw [← hW1]; exact (Below.heap_alloc _ _ _ (by simp)).trans (World.alloc_heap_new w _)
  have q1 : W1.heap[w.heap.size + 1]? = some (.cells #[.slice B1 b.cls.length m1, .slice B2 b.next.length m2, .slice B3 b.marks.length m3] 25 (0, 0)) := by
    rw [← hW1]; have := World.alloc_heap_new (w.alloc (.cells #[.slice A1 a.cls.length k1, .slice A2 a.next.length k2, .slice A3 a.marks.length k3] 25 (0, 0))) (.cells #[.slice B1 b.cls.length m1, .slice B2 b.next.length m2, .slice B3 b.marks.length m3] 25 (0, 0)); simpa using this
  have hB1 : Below w.heap.size w W1 := by rw [← hW1]; exact ((Below.refl _ _).alloc (Nat.le_refl _) _).alloc (by simp) _
  have hz1 : w.heap.size + 1 < W1.heap.size := by rw [← hW1]; simp
  clear hW1
  have hc1 := fun W' (hW' : Below W1.heap.size W1 W') => hcA W' (hB1.trans (hW'.mono hB1.size))
  have hc2 := fun W' (hW' : Below W1.heap.size W1 W') => hcB W' (hB1.trans (hW'.mono hB1.size))
  clear hcA hcB
  obtain ⟨a0, a1, a2⟩ := cells3 q0
  obtain ⟨b0, b1, b2⟩ := cells3 q1
  have HQ0 := Lib.hid q0
  have HQ1 := Lib.hid q1
  have HB1 := Lib.hid hB1
  have HTA := Lib.hid htA
  have HTB := Lib.hid htB
  clear q0 q1 hB1 htA htB
  go_cut [9, 10] (fun s9 s10 wx => ∃ (g9 g10 : Nat) (h1 h2 : DA), s9 = .pointer (some ⟨g9, 0, none⟩) ∧ s10 = .pointer (some ⟨g10, 0, none⟩) ∧ (wx.heap[g9]? = some (.cells (dfaC h1 a) 25 (0, 0)) ∧ wx.heap[g10]? = some (.cells (dfaC h2 b) 25 (0, 0)) ∧ DfaG Kset 33 36 wx W1.heap.size (fun k => W1.heap.size ≤ k) h1 a ∧ DfaG Kset 33 36 wx W1.heap.size (fun k => W1.heap.size ≤ k) h2 b ∧ Below W1.heap.size W1 wx) ∧ W1.heap.size ≤ g9 ∧ W1.heap.size ≤ g10)
  case first =>
    obtain ⟨SS, hSS⟩ : ∃ S : World → Prop, S = fun w' => Below W1.heap.size W1 w' := ⟨_, rfl⟩
    have hSi : ∀ W', SS W' → Below W1.heap.size W1 W' := fun W' h => by rw [hSS] at h; exact h
    have hSo : ∀ W', Below W1.heap.size W1 W' → SS W' := fun W' h => by rw [hSS]; exact h
    clear hSS
    refine wp_region_noPanic (wp_region_T SS [0, 2] (by kernel_rfl) ?_)
    have hBel : Below W1.heap.size W1 W1.drew := (Below.refl _ _).drew
    have hz0 : W1.heap.size ≤ W1.drew.heap.size := Nat.le_refl _
    have hS : SS W1.drew := hSo _ hBel
    generalize W1.drew = y0 at *
    refine wpAnyT_take (i := 0) (v := ?v0_1) rfl rfl (by kernel_rfl) (by kernel_rfl) (by kernel_rfl) (fun _ _ _ h => h) (by rfl) hS ?hy0_1 ?r0_1
    case hy0_1 => (intro w hSw; have e0 := bcellS (hSi _ hSw) a0; have e1 := bcellS (hSi _ hSw) a1; have e2 := bcellS (hSi _ hSw) a2; have f0 := bcellS (hSi _ hSw) b0; have f1 := bcellS (hSi _ hSw) b1; have f2 := bcellS (hSi _ hSw) b2; (try dsimp only at hSw); go_simp; try (with_reducible rfl))
    case r0_1 =>
    try simp only [Act.put, List.setIfInBounds_toArray, List.set_cons_zero, List.set_cons_succ]
    refine wpAnyT_take (i := 2) (v := ?v2_2) rfl rfl (by kernel_rfl) (by kernel_rfl) (by kernel_rfl) (fun _ _ _ h => h) (by rfl) hS ?hy2_2 ?r2_2
    case hy2_2 => (intro w hSw; have e0 := bcellS (hSi _ hSw) a0; have e1 := bcellS (hSi _ hSw) a1; have e2 := bcellS (hSi _ hSw) a2; have f0 := bcellS (hSi _ hSw) b0; have f1 := bcellS (hSi _ hSw) b1; have f2 := bcellS (hSi _ hSw) b2; (try dsimp only at hSw); go_simp; try (with_reducible rfl))
    case r2_2 =>
    try simp only [Act.put, List.setIfInBounds_toArray, List.set_cons_zero, List.set_cons_succ]
    clear a0 a1 a2 b0 b1 b2 hSi hS
    refine wpAnyT_three (i := 1) (j := 4) (k := 5) rfl rfl rfl (by kernel_rfl) (by rfl) (by rfl) (by rfl) (fun K hK => ?_) (fun K hK => ?_) (fun K hK => ?_)
    · go_simp
      refine (hc1 y0 hBel).mono ?_
      rintro e y1 ⟨h1, rfl, hO, hBx⟩
      obtain ⟨X11, x11, X12, x12, X13, x13⟩ := h1
      have hBel' := hBel.trans (hBx.mono hBel.size)
      try dsimp only [dfaV, dfaC]
      refine hK _ _ (fun _ _ => hSo _ hBel') ?_
      have s1 := hBx.size
      have o1 := (DfaO.g hO).bound
      clear hO hBel hBx
      have hBel := hBel'
      clear hBel'
      clear hK K
      try simp only [Act.put, List.setIfInBounds_toArray, List.set_cons_zero, List.set_cons_succ]
      refine wpAnyT_three (i := 3) (j := 4) (k := 5) rfl rfl rfl (by kernel_rfl) (by rfl) (by rfl) (by rfl) (fun K hK => ?_) (fun K hK => ?_) (fun K hK => ?_)
      · go_simp
        refine (hc2 y1 hBel).mono ?_
        rintro e y2 ⟨h2, rfl, hO, hBx⟩
        obtain ⟨X21, x21, X22, x22, X23, x23⟩ := h2
        have hBel' := hBel.trans (hBx.mono hBel.size)
        try dsimp only [dfaV, dfaC]
        refine hK _ _ (fun _ _ => hSo _ hBel') ?_
        have s2 := hBx.size
        have o1 := o1.below hBx
        have o2 := (DfaO.g hO).bound
        clear hO hBel hBx
        have hBel := hBel'
        clear hBel'
        clear hK K
        try simp only [Act.put, List.setIfInBounds_toArray, List.set_cons_zero, List.set_cons_succ]
        refine wpAnyT_two (i := 4) (j := 5) rfl rfl (by kernel_rfl) (by rfl) (by rfl) (fun K hK => ?_) (fun K hK => ?_)
        · go_simp
          refine hK _ _ (fun _ _ => hSo _ (hBel.alloc hBel.size _)) ?_
          have s3 : y2.heap.size < (y2.alloc (.cells #[.slice none 0 0, .slice none 0 0, .slice none 0 0] 25)).heap.size := by simp
          have o1 := o1.step (w' := y2.alloc (.cells #[.slice none 0 0, .slice none 0 0, .slice none 0 0] 25)) fun b _ hl => Below.heap_alloc _ _ b hl
          have o2 := o2.step (w' := y2.alloc (.cells #[.slice none 0 0, .slice none 0 0, .slice none 0 0] 25)) fun b _ hl => Below.heap_alloc _ _ b hl
          have q4 := World.alloc_heap_new y2 (.cells #[.slice none 0 0, .slice none 0 0, .slice none 0 0] 25)
          have hBel' := hBel.alloc hBel.size (.cells #[.slice none 0 0, .slice none 0 0, .slice none 0 0] 25)
          clear hBel
          have hBel := hBel'
          clear hBel'
          clear hK K
          try simp only [Act.put, List.setIfInBounds_toArray, List.set_cons_zero, List.set_cons_succ]
          generalize hy3 : y2.alloc (.cells #[.slice none 0 0, .slice none 0 0, .slice none 0 0] 25) = y3 at *
          clear hy3
          refine wpAnyT_one (i := 5) rfl (by kernel_rfl) (by rfl) (fun K hK => ?_)
          go_simp
          refine hK _ _ (fun _ _ => hSo _ (hBel.alloc hBel.size _)) ?_
          have s4 : y3.heap.size < (y3.alloc (.cells #[.slice none 0 0, .slice none 0 0, .slice none 0 0] 25)).heap.size := by simp
          have q4 := (Below.heap_alloc y3 (.cells #[.slice none 0 0, .slice none 0 0, .slice none 0 0] 25) _ (by omega)).trans q4
          have o1 := o1.step (w' := y3.alloc (.cells #[.slice none 0 0, .slice none 0 0, .slice none 0 0] 25)) fun b _ hl => Below.heap_alloc _ _ b hl
          have o2 := o2.step (w' := y3.alloc (.cells #[.slice none 0 0, .slice none 0 0, .slice none 0 0] 25)) fun b _ hl => Below.heap_alloc _ _ b hl
          have q5 := World.alloc_heap_new y3 (.cells #[.slice none 0 0, .slice none 0 0, .slice none 0 0] 25)
          have hBel' := hBel.alloc hBel.size (.cells #[.slice none 0 0, .slice none 0 0, .slice none 0 0] 25)
          clear hBel
          have hBel := hBel'
          clear hBel'
          clear hK K
          try simp only [Act.put, List.setIfInBounds_toArray, List.set_cons_zero, List.set_cons_succ]
          generalize hy4 : y3.alloc (.cells #[.slice none 0 0, .slice none 0 0, .slice none 0 0] 25) = y4 at *
          clear hy4
          obtain ⟨c0, c1, c2⟩ := cells3 q4
          have cf : ∀ j, y4.frozen? ⟨y2.heap.size, j, none⟩ = false := fun j => frozen_of_row _ _ j _ _ q4
          refine wpAnyT_one (i := 6) rfl (by kernel_rfl) (by rfl) (fun K hK => ?_)
          go_simp
          refine hK _ _ (fun _ _ => hSo _ (((hBel.setCell (p := ⟨y2.heap.size, 0, none⟩) (by show W1.heap.size ≤ y2.heap.size; omega) _).setCell (p := ⟨y2.heap.size, 1, none⟩) (by show W1.heap.size ≤ y2.heap.size; omega) _).setCell (p := ⟨y2.heap.size, 2, none⟩) (by show W1.heap.size ≤ y2.heap.size; omega) _)) ?_
          clear hK K
          try simp only [Act.put, List.setIfInBounds_toArray, List.set_cons_zero, List.set_cons_succ]
          have hne : y2.heap.size ≠ y3.heap.size := by omega
          have r5 := (Below.heap_setCell ((y4.setCell ⟨y2.heap.size, 0, none⟩ (.slice X11 a.cls.length x11)).setCell ⟨y2.heap.size, 1, none⟩ (.slice X12 a.next.length x12)) ⟨y2.heap.size, 2, none⟩ (.slice X13 a.marks.length x13) _ (fun e => hne e.symm)).trans ((Below.heap_setCell (y4.setCell ⟨y2.heap.size, 0, none⟩ (.slice X11 a.cls.length x11)) ⟨y2.heap.size, 1, none⟩ (.slice X12 a.next.length x12) _ (fun e => hne e.symm)).trans ((Below.heap_setCell y4 ⟨y2.heap.size, 0, none⟩ (.slice X11 a.cls.length x11) _ (fun e => hne e.symm)).trans q5))
          obtain ⟨d0, d1, d2⟩ := cells3 r5
          have df := fun j => frozen_of_row _ _ j _ _ r5
          clear c0 c1 c2 cf
          refine wpAnyT_one (i := 7) rfl (by kernel_rfl) (by rfl) (fun K hK => ?_)
          generalize hyz : ((y4.setCell ⟨y2.heap.size, 0, none⟩ (.slice X11 a.cls.length x11)).setCell ⟨y2.heap.size, 1, none⟩ (.slice X12 a.next.length x12)).setCell ⟨y2.heap.size, 2, none⟩ (.slice X13 a.marks.length x13) = yz at *
          have HYZ := Lib.hid hyz
          clear hyz
          go_simp
          refine hK _ _ (no_need (by kernel_rfl)) ?_
          clear hK K
          try simp only [Act.put, List.setIfInBounds_toArray, List.set_cons_zero, List.set_cons_succ]
          refine wpAnyT_done (by kernel_rfl) ?_ _
          refine NoPanic.normal ?_
          clear d0 d1 d2 df
          go_wp2_with fail
          go_meet
          exact ⟨_, _, ⟨X11, x11, X12, x12, X13, x13⟩, ⟨X21, x21, X22, x22, X23, x23⟩, rfl, rfl, two_put q4 q5 hne (o1.lower (by omega)) (o2.lower (by omega)) (fun k hk => by omega) (fun k hk => by omega) hBel (by omega) (by omega) _ (by rw [HYZ.out]), by omega, by omega⟩
        · go_simp
          refine hK _ _ (fun _ _ => hSo _ (hBel.alloc hBel.size _)) ?_
          have s5 : y2.heap.size < (y2.alloc (.cells #[.slice none 0 0, .slice none 0 0, .slice none 0 0] 25)).heap.size := by simp
          have o1 := o1.step (w' := y2.alloc (.cells #[.slice none 0 0, .slice none 0 0, .slice none 0 0] 25)) fun b _ hl => Below.heap_alloc _ _ b hl
          have o2 := o2.step (w' := y2.alloc (.cells #[.slice none 0 0, .slice none 0 0, .slice none 0 0] 25)) fun b _ hl => Below.heap_alloc _ _ b hl
          have q5 := World.alloc_heap_new y2 (.cells #[.slice none 0 0, .slice none 0 0, .slice none 0 0] 25)
          have hBel' := hBel.alloc hBel.size (.cells #[.slice none 0 0, .slice none 0 0, .slice none 0 0] 25)
          clear hBel
          have hBel := hBel'
          clear hBel'
          clear hK K
          try simp only [Act.put, List.setIfInBounds_toArray, List.set_cons_zero, List.set_cons_succ]
          generalize hy5 : y2.alloc (.cells #[.slice none 0 0, .slice none 0 0, .slice none 0 0] 25) = y5 at *
          clear hy5
          refine wpAnyT_one (i := 4) rfl (by kernel_rfl) (by rfl) (fun K hK => ?_)
          go_simp
          refine hK _ _ (fun _ _ => hSo _ (hBel.alloc hBel.size _)) ?_
          have s6 : y5.heap.size < (y5.alloc (.cells #[.slice none 0 0, .slice none 0 0, .slice none 0 0] 25)).heap.size := by simp
          have q5 := (Below.heap_alloc y5 (.cells #[.slice none 0 0, .slice none 0 0, .slice none 0 0] 25) _ (by omega)).trans q5
          have o1 := o1.step (w' := y5.alloc (.cells #[.slice none 0 0, .slice none 0 0, .slice none 0 0] 25)) fun b _ hl => Below.heap_alloc _ _ b hl
          have o2 := o2.step (w' := y5.alloc (.cells #[.slice none 0 0, .slice none 0 0, .slice none 0 0] 25)) fun b _ hl => Below.heap_alloc _ _ b hl
          have q4 := World.alloc_heap_new y5 (.cells #[.slice none 0 0, .slice none 0 0, .slice none 0 0] 25)
          have hBel' := hBel.alloc hBel.size (.cells #[.slice none 0 0, .slice none 0 0, .slice none 0 0] 25)
          clear hBel
          have hBel := hBel'
          clear hBel'
          clear hK K
          try simp only [Act.put, List.setIfInBounds_toArray, List.set_cons_zero, List.set_cons_succ]
          generalize hy6 : y5.alloc (.cells #[.slice none 0 0, .slice none 0 0, .slice none 0 0] 25) = y6 at *
          clear hy6
          obtain ⟨c0, c1, c2⟩ := cells3 q4
          have cf : ∀ j, y6.frozen? ⟨y5.heap.size, j, none⟩ = false := fun j => frozen_of_row _ _ j _ _ q4
          refine wpAnyT_one (i := 6) rfl (by kernel_rfl) (by rfl) (fun K hK => ?_)
          go_simp
          refine hK _ _ (fun _ _ => hSo _ (((hBel.setCell (p := ⟨y5.heap.size, 0, none⟩) (by show W1.heap.size ≤ y5.heap.size; omega) _).setCell (p := ⟨y5.heap.size, 1, none⟩) (by show W1.heap.size ≤ y5.heap.size; omega) _).setCell (p := ⟨y5.heap.size, 2, none⟩) (by show W1.heap.size ≤ y5.heap.size; omega) _)) ?_
          clear hK K
          try simp only [Act.put, List.setIfInBounds_toArray, List.set_cons_zero, List.set_cons_succ]
          have hne : y5.heap.size ≠ y2.heap.size := by omega
          have r5 := (Below.heap_setCell ((y6.setCell ⟨y5.heap.size, 0, none⟩ (.slice X11 a.cls.length x11)).setCell ⟨y5.heap.size, 1, none⟩ (.slice X12 a.next.length x12)) ⟨y5.heap.size, 2, none⟩ (.slice X13 a.marks.length x13) _ (fun e => hne e.symm)).trans ((Below.heap_setCell (y6.setCell ⟨y5.heap.size, 0, none⟩ (.slice X11 a.cls.length x11)) ⟨y5.heap.size, 1, none⟩ (.slice X12 a.next.length x12) _ (fun e => hne e.symm)).trans ((Below.heap_setCell y6 ⟨y5.heap.size, 0, none⟩ (.slice X11 a.cls.length x11) _ (fun e => hne e.symm)).trans q5))
          obtain ⟨d0, d1, d2⟩ := cells3 r5
          have df := fun j => frozen_of_row _ _ j _ _ r5
          clear c0 c1 c2 cf
          refine wpAnyT_one (i := 7) rfl (by kernel_rfl) (by rfl) (fun K hK => ?_)
          generalize hyz : ((y6.setCell ⟨y5.heap.size, 0, none⟩ (.slice X11 a.cls.length x11)).setCell ⟨y5.heap.size, 1, none⟩ (.slice X12 a.next.length x12)).setCell ⟨y5.heap.size, 2, none⟩ (.slice X13 a.marks.length x13) = yz at *
          have HYZ := Lib.hid hyz
          clear hyz
          go_simp
          refine hK _ _ (no_need (by kernel_rfl)) ?_
          clear hK K
          try simp only [Act.put, List.setIfInBounds_toArray, List.set_cons_zero, List.set_cons_succ]
          refine wpAnyT_done (by kernel_rfl) ?_ _
          refine NoPanic.normal ?_
          clear d0 d1 d2 df
          go_wp2_with fail
          go_meet
          exact ⟨_, _, ⟨X11, x11, X12, x12, X13, x13⟩, ⟨X21, x21, X22, x22, X23, x23⟩, rfl, rfl, two_put q4 q5 hne (o1.lower (by omega)) (o2.lower (by omega)) (fun k hk => by omega) (fun k hk => by omega) hBel (by omega) (by omega) _ (by rw [HYZ.out]), by omega, by omega⟩
      · go_simp
        refine hK _ _ (fun _ _ => hSo _ (hBel.alloc hBel.size _)) ?_
        have s7 : y1.heap.size < (y1.alloc (.cells #[.slice none 0 0, .slice none 0 0, .slice none 0 0] 25)).heap.size := by simp
        have o1 := o1.step (w' := y1.alloc (.cells #[.slice none 0 0, .slice none 0 0, .slice none 0 0] 25)) fun b _ hl => Below.heap_alloc _ _ b hl
        have q4 := World.alloc_heap_new y1 (.cells #[.slice none 0 0, .slice none 0 0, .slice none 0 0] 25)
        have hBel' := hBel.alloc hBel.size (.cells #[.slice none 0 0, .slice none 0 0, .slice none 0 0] 25)
        clear hBel
        have hBel := hBel'
        clear hBel'
        clear hK K
        try simp only [Act.put, List.setIfInBounds_toArray, List.set_cons_zero, List.set_cons_succ]
        generalize hy7 : y1.alloc (.cells #[.slice none 0 0, .slice none 0 0, .slice none 0 0] 25) = y7 at *
        clear hy7
        refine wpAnyT_two (i := 3) (j := 5) rfl rfl (by kernel_rfl) (by rfl) (by rfl) (fun K hK => ?_) (fun K hK => ?_)
        · go_simp
          refine (hc2 y7 hBel).mono ?_
          rintro e y8 ⟨h2, rfl, hO, hBx⟩
          obtain ⟨X21, x21, X22, x22, X23, x23⟩ := h2
          have hBel' := hBel.trans (hBx.mono hBel.size)
          try dsimp only [dfaV, dfaC]
          refine hK _ _ (fun _ _ => hSo _ hBel') ?_
          have s8 := hBx.size
          have q4 := (hBx.block _ (by omega)).trans q4
          have o1 := o1.below hBx
          have o2 := (DfaO.g hO).bound
          clear hO hBel hBx
          have hBel := hBel'
          clear hBel'
          clear hK K
          try simp only [Act.put, List.setIfInBounds_toArray, List.set_cons_zero, List.set_cons_succ]
          refine wpAnyT_one (i := 5) rfl (by kernel_rfl) (by rfl) (fun K hK => ?_)
          go_simp
          refine hK _ _ (fun _ _ => hSo _ (hBel.alloc hBel.size _)) ?_
          have s9 : y8.heap.size < (y8.alloc (.cells #[.slice none 0 0, .slice none 0 0, .slice none 0 0] 25)).heap.size := by simp
          have q4 := (Below.heap_alloc y8 (.cells #[.slice none 0 0, .slice none 0 0, .slice none 0 0] 25) _ (by omega)).trans q4
          have o1 := o1.step (w' := y8.alloc (.cells #[.slice none 0 0, .slice none 0 0, .slice none 0 0] 25)) fun b _ hl => Below.heap_alloc _ _ b hl
          have o2 := o2.step (w' := y8.alloc (.cells #[.slice none 0 0, .slice none 0 0, .slice none 0 0] 25)) fun b _ hl => Below.heap_alloc _ _ b hl
          have q5 := World.alloc_heap_new y8 (.cells #[.slice none 0 0, .slice none 0 0, .slice none 0 0] 25)
          have hBel' := hBel.alloc hBel.size (.cells #[.slice none 0 0, .slice none 0 0, .slice none 0 0] 25)
          clear hBel
          have hBel := hBel'
          clear hBel'
          clear hK K
          try simp only [Act.put, List.setIfInBounds_toArray, List.set_cons_zero, List.set_cons_succ]
          generalize hy9 : y8.alloc (.cells #[.slice none 0 0, .slice none 0 0, .slice none 0 0] 25) = y9 at *
          clear hy9
          obtain ⟨c0, c1, c2⟩ := cells3 q4
          have cf : ∀ j, y9.frozen? ⟨y1.heap.size, j, none⟩ = false := fun j => frozen_of_row _ _ j _ _ q4
          refine wpAnyT_one (i := 6) rfl (by kernel_rfl) (by rfl) (fun K hK => ?_)
          go_simp
          refine hK _ _ (fun _ _ => hSo _ (((hBel.setCell (p := ⟨y1.heap.size, 0, none⟩) (by show W1.heap.size ≤ y1.heap.size; omega) _).setCell (p := ⟨y1.heap.size, 1, none⟩) (by show W1.heap.size ≤ y1.heap.size; omega) _).setCell (p := ⟨y1.heap.size, 2, none⟩) (by show W1.heap.size ≤ y1.heap.size; omega) _)) ?_
          clear hK K
          try simp only [Act.put, List.setIfInBounds_toArray, List.set_cons_zero, List.set_cons_succ]
          have hne : y1.heap.size ≠ y8.heap.size := by omega
          have r5 := (Below.heap_setCell ((y9.setCell ⟨y1.heap.size, 0, none⟩ (.slice X11 a.cls.length x11)).setCell ⟨y1.heap.size, 1, none⟩ (.slice X12 a.next.length x12)) ⟨y1.heap.size, 2, none⟩ (.slice X13 a.marks.length x13) _ (fun e => hne e.symm)).trans ((Below.heap_setCell (y9.setCell ⟨y1.heap.size, 0, none⟩ (.slice X11 a.cls.length x11)) ⟨y1.heap.size, 1, none⟩ (.slice X12 a.next.length x12) _ (fun e => hne e.symm)).trans ((Below.heap_setCell y9 ⟨y1.heap.size, 0, none⟩ (.slice X11 a.cls.length x11) _ (fun e => hne e.symm)).trans q5))
          obtain ⟨d0, d1, d2⟩ := cells3 r5
          have df := fun j => frozen_of_row _ _ j _ _ r5
          clear c0 c1 c2 cf
          refine wpAnyT_one (i := 7) rfl (by kernel_rfl) (by rfl) (fun K hK => ?_)
          generalize hyz : ((y9.setCell ⟨y1.heap.size, 0, none⟩ (.slice X11 a.cls.length x11)).setCell ⟨y1.heap.size, 1, none⟩ (.slice X12 a.next.length x12)).setCell ⟨y1.heap.size, 2, none⟩ (.slice X13 a.marks.length x13) = yz at *
          have HYZ := Lib.hid hyz
          clear hyz
          go_simp
          refine hK _ _ (no_need (by kernel_rfl)) ?_
          clear hK K
          try simp only [Act.put, List.setIfInBounds_toArray, List.set_cons_zero, List.set_cons_succ]
          refine wpAnyT_done (by kernel_rfl) ?_ _
          refine NoPanic.normal ?_
          clear d0 d1 d2 df
          go_wp2_with fail
          go_meet
          exact ⟨_, _, ⟨X11, x11, X12, x12, X13, x13⟩, ⟨X21, x21, X22, x22, X23, x23⟩, rfl, rfl, two_put q4 q5 hne (o1.lower (by omega)) (o2.lower (by omega)) (fun k hk => by omega) (fun k hk => by omega) hBel (by omega) (by omega) _ (by rw [HYZ.out]), by omega, by omega⟩
        · go_simp
          refine hK _ _ (fun _ _ => hSo _ (hBel.alloc hBel.size _)) ?_
          have s10 : y7.heap.size < (y7.alloc (.cells #[.slice none 0 0, .slice none 0 0, .slice none 0 0] 25)).heap.size := by simp
          have q4 := (Below.heap_alloc y7 (.cells #[.slice none 0 0, .slice none 0 0, .slice none 0 0] 25) _ (by omega)).trans q4
          have o1 := o1.step (w' := y7.alloc (.cells #[.slice none 0 0, .slice none 0 0, .slice none 0 0] 25)) fun b _ hl => Below.heap_alloc _ _ b hl
          have q5 := World.alloc_heap_new y7 (.cells #[.slice none 0 0, .slice none 0 0, .slice none 0 0] 25)
          have hBel' := hBel.alloc hBel.size (.cells #[.slice none 0 0, .slice none 0 0, .slice none 0 0] 25)
          clear hBel
          have hBel := hBel'
          clear hBel'
          clear hK K
          try simp only [Act.put, List.setIfInBounds_toArray, List.set_cons_zero, List.set_cons_succ]
          generalize hy10 : y7.alloc (.cells #[.slice none 0 0, .slice none 0 0, .slice none 0 0] 25) = y10 at *
          clear hy10
          refine wpAnyT_one (i := 3) rfl (by kernel_rfl) (by rfl) (fun K hK => ?_)
          go_simp
          refine (hc2 y10 hBel).mono ?_
          rintro e y11 ⟨h2, rfl, hO, hBx⟩
          obtain ⟨X21, x21, X22, x22, X23, x23⟩ := h2
          have hBel' := hBel.trans (hBx.mono hBel.size)
          try dsimp only [dfaV, dfaC]
          refine hK _ _ (fun _ _ => hSo _ hBel') ?_
          have s11 := hBx.size
          have q4 := (hBx.block _ (by omega)).trans q4
          have q5 := (hBx.block _ (by omega)).trans q5
          have o1 := o1.below hBx
          have o2 := (DfaO.g hO).bound
          clear hO hBel hBx
          have hBel := hBel'
          clear hBel'
          clear hK K
          try simp only [Act.put, List.setIfInBounds_toArray, List.set_cons_zero, List.set_cons_succ]
          obtain ⟨c0, c1, c2⟩ := cells3 q4
          have cf : ∀ j, y11.frozen? ⟨y1.heap.size, j, none⟩ = false := fun j => frozen_of_row _ _ j _ _ q4
          refine wpAnyT_one (i := 6) rfl (by kernel_rfl) (by rfl) (fun K hK => ?_)
          go_simp
          refine hK _ _ (fun _ _ => hSo _ (((hBel.setCell (p := ⟨y1.heap.size, 0, none⟩) (by show W1.heap.size ≤ y1.heap.size; omega) _).setCell (p := ⟨y1.heap.size, 1, none⟩) (by show W1.heap.size ≤ y1.heap.size; omega) _).setCell (p := ⟨y1.heap.size, 2, none⟩) (by show W1.heap.size ≤ y1.heap.size; omega) _)) ?_
          clear hK K
          try simp only [Act.put, List.setIfInBounds_toArray, List.set_cons_zero, List.set_cons_succ]
          have hne : y1.heap.size ≠ y7.heap.size := by omega
          have r5 := (Below.heap_setCell ((y11.setCell ⟨y1.heap.size, 0, none⟩ (.slice X11 a.cls.length x11)).setCell ⟨y1.heap.size, 1, none⟩ (.slice X12 a.next.length x12)) ⟨y1.heap.size, 2, none⟩ (.slice X13 a.marks.length x13) _ (fun e => hne e.symm)).trans ((Below.heap_setCell (y11.setCell ⟨y1.heap.size, 0, none⟩ (.slice X11 a.cls.length x11)) ⟨y1.heap.size, 1, none⟩ (.slice X12 a.next.length x12) _ (fun e => hne e.symm)).trans ((Below.heap_setCell y11 ⟨y1.heap.size, 0, none⟩ (.slice X11 a.cls.length x11) _ (fun e => hne e.symm)).trans q5))
          obtain ⟨d0, d1, d2⟩ := cells3 r5
          have df := fun j => frozen_of_row _ _ j _ _ r5
          clear c0 c1 c2 cf
          refine wpAnyT_one (i := 7) rfl (by kernel_rfl) (by rfl) (fun K hK => ?_)
          generalize hyz : ((y11.setCell ⟨y1.heap.size, 0, none⟩ (.slice X11 a.cls.length x11)).setCell ⟨y1.heap.size, 1, none⟩ (.slice X12 a.next.length x12)).setCell ⟨y1.heap.size, 2, none⟩ (.slice X13 a.marks.length x13) = yz at *
          have HYZ := Lib.hid hyz
          clear hyz
          go_simp
          refine hK _ _ (no_need (by kernel_rfl)) ?_
          clear hK K
          try simp only [Act.put, List.setIfInBounds_toArray, List.set_cons_zero, List.set_cons_succ]
          refine wpAnyT_done (by kernel_rfl) ?_ _
          refine NoPanic.normal ?_
          clear d0 d1 d2 df
          go_wp2_with fail
          go_meet
          exact ⟨_, _, ⟨X11, x11, X12, x12, X13, x13⟩, ⟨X21, x21, X22, x22, X23, x23⟩, rfl, rfl, two_put q4 q5 hne (o1.lower (by omega)) (o2.lower (by omega)) (fun k hk => by omega) (fun k hk => by omega) hBel (by omega) (by omega) _ (by rw [HYZ.out]), by omega, by omega⟩
      · go_simp
        refine hK _ _ (fun _ _ => hSo _ (hBel.alloc hBel.size _)) ?_
        have s12 : y1.heap.size < (y1.alloc (.cells #[.slice none 0 0, .slice none 0 0, .slice none 0 0] 25)).heap.size := by simp
        have o1 := o1.step (w' := y1.alloc (.cells #[.slice none 0 0, .slice none 0 0, .slice none 0 0] 25)) fun b _ hl => Below.heap_alloc _ _ b hl
        have q5 := World.alloc_heap_new y1 (.cells #[.slice none 0 0, .slice none 0 0, .slice none 0 0] 25)
        have hBel' := hBel.alloc hBel.size (.cells #[.slice none 0 0, .slice none 0 0, .slice none 0 0] 25)
        clear hBel
        have hBel := hBel'
        clear hBel'
        clear hK K
        try simp only [Act.put, List.setIfInBounds_toArray, List.set_cons_zero, List.set_cons_succ]
        generalize hy12 : y1.alloc (.cells #[.slice none 0 0, .slice none 0 0, .slice none 0 0] 25) = y12 at *
        clear hy12
        refine wpAnyT_two (i := 3) (j := 4) rfl rfl (by kernel_rfl) (by rfl) (by rfl) (fun K hK => ?_) (fun K hK => ?_)
        · go_simp
          refine (hc2 y12 hBel).mono ?_
          rintro e y13 ⟨h2, rfl, hO, hBx⟩
          obtain ⟨X21, x21, X22, x22, X23, x23⟩ := h2
          have hBel' := hBel.trans (hBx.mono hBel.size)
          try dsimp only [dfaV, dfaC]
          refine hK _ _ (fun _ _ => hSo _ hBel') ?_
          have s13 := hBx.size
          have q5 := (hBx.block _ (by omega)).trans q5
          have o1 := o1.below hBx
          have o2 := (DfaO.g hO).bound
          clear hO hBel hBx
          have hBel := hBel'
          clear hBel'
          clear hK K
          try simp only [Act.put, List.setIfInBounds_toArray, List.set_cons_zero, List.set_cons_succ]
          refine wpAnyT_one (i := 4) rfl (by kernel_rfl) (by rfl) (fun K hK => ?_)
          go_simp
          refine hK _ _ (fun _ _ => hSo _ (hBel.alloc hBel.size _)) ?_
          have s14 : y13.heap.size < (y13.alloc (.cells #[.slice none 0 0, .slice none 0 0, .slice none 0 0] 25)).heap.size := by simp
          have q5 := (Below.heap_alloc y13 (.cells #[.slice none 0 0, .slice none 0 0, .slice none 0 0] 25) _ (by omega)).trans q5
          have o1 := o1.step (w' := y13.alloc (.cells #[.slice none 0 0, .slice none 0 0, .slice none 0 0] 25)) fun b _ hl => Below.heap_alloc _ _ b hl
          have o2 := o2.step (w' := y13.alloc (.cells #[.slice none 0 0, .slice none 0 0, .slice none 0 0] 25)) fun b _ hl => Below.heap_alloc _ _ b hl
          have q4 := World.alloc_heap_new y13 (.cells #[.slice none 0 0, .slice none 0 0, .slice none 0 0] 25)
          have hBel' := hBel.alloc hBel.size (.cells #[.slice none 0 0, .slice none 0 0, .slice none 0 0] 25)
          clear hBel
          have hBel := hBel'
          clear hBel'
          clear hK K
          try simp only [Act.put, List.setIfInBounds_toArray, List.set_cons_zero, List.set_cons_succ]
          generalize hy14 : y13.alloc (.cells #[.slice none 0 0, .slice none 0 0, .slice none 0 0] 25) = y14 at *
          clear hy14
          obtain ⟨c0, c1, c2⟩ := cells3 q4
          have cf : ∀ j, y14.frozen? ⟨y13.heap.size, j, none⟩ = false := fun j => frozen_of_row _ _ j _ _ q4
          refine wpAnyT_one (i := 6) rfl (by kernel_rfl) (by rfl) (fun K hK => ?_)
          go_simp
          refine hK _ _ (fun _ _ => hSo _ (((hBel.setCell (p := ⟨y13.heap.size, 0, none⟩) (by show W1.heap.size ≤ y13.heap.size; omega) _).setCell (p := ⟨y13.heap.size, 1, none⟩) (by show W1.heap.size ≤ y13.heap.size; omega) _).setCell (p := ⟨y13.heap.size, 2, none⟩) (by show W1.heap.size ≤ y13.heap.size; omega) _)) ?_
          clear hK K
          try simp only [Act.put, List.setIfInBounds_toArray, List.set_cons_zero, List.set_cons_succ]
          have hne : y13.heap.size ≠ y1.heap.size := by omega
          have r5 := (Below.heap_setCell ((y14.setCell ⟨y13.heap.size, 0, none⟩ (.slice X11 a.cls.length x11)).setCell ⟨y13.heap.size, 1, none⟩ (.slice X12 a.next.length x12)) ⟨y13.heap.size, 2, none⟩ (.slice X13 a.marks.length x13) _ (fun e => hne e.symm)).trans ((Below.heap_setCell (y14.setCell ⟨y13.heap.size, 0, none⟩ (.slice X11 a.cls.length x11)) ⟨y13.heap.size, 1, none⟩ (.slice X12 a.next.length x12) _ (fun e => hne e.symm)).trans ((Below.heap_setCell y14 ⟨y13.heap.size, 0, none⟩ (.slice X11 a.cls.length x11) _ (fun e => hne e.symm)).trans q5))
          obtain ⟨d0, d1, d2⟩ := cells3 r5
          have df := fun j => frozen_of_row _ _ j _ _ r5
          clear c0 c1 c2 cf
          refine wpAnyT_one (i := 7) rfl (by kernel_rfl) (by rfl) (fun K hK => ?_)
          generalize hyz : ((y14.setCell ⟨y13.heap.size, 0, none⟩ (.slice X11 a.cls.length x11)).setCell ⟨y13.heap.size, 1, none⟩ (.slice X12 a.next.length x12)).setCell ⟨y13.heap.size, 2, none⟩ (.slice X13 a.marks.length x13) = yz at *
          have HYZ := Lib.hid hyz
          clear hyz
          go_simp
          refine hK _ _ (no_need (by kernel_rfl)) ?_
          clear hK K
          try simp only [Act.put, List.setIfInBounds_toArray, List.set_cons_zero, List.set_cons_succ]
          refine wpAnyT_done (by kernel_rfl) ?_ _
          refine NoPanic.normal ?_
          clear d0 d1 d2 df
          go_wp2_with fail
          go_meet
          exact ⟨_, _, ⟨X11, x11, X12, x12, X13, x13⟩, ⟨X21, x21, X22, x22, X23, x23⟩, rfl, rfl, two_put q4 q5 hne (o1.lower (by omega)) (o2.lower (by omega)) (fun k hk => by omega) (fun k hk => by omega) hBel (by omega) (by omega) _ (by rw [HYZ.out]), by omega, by omega⟩
        · go_simp
          refine hK _ _ (fun _ _ => hSo _ (hBel.alloc hBel.size _)) ?_
          have s15 : y12.heap.size < (y12.alloc (.cells #[.slice none 0 0, .slice none 0 0, .slice none 0 0] 25)).heap.size := by simp
          have q5 := (Below.heap_alloc y12 (.cells #[.slice none 0 0, .slice none 0 0, .slice none 0 0] 25) _ (by omega)).trans q5
          have o1 := o1.step (w' := y12.alloc (.cells #[.slice none 0 0, .slice none 0 0, .slice none 0 0] 25)) fun b _ hl => Below.heap_alloc _ _ b hl
          have q4 := World.alloc_heap_new y12 (.cells #[.slice none 0 0, .slice none 0 0, .slice none 0 0] 25)
          have hBel' := hBel.alloc hBel.size (.cells #[.slice none 0 0, .slice none 0 0, .slice none 0 0] 25)
          clear hBel
          have hBel := hBel'
          clear hBel'
          clear hK K
          try simp only [Act.put, List.setIfInBounds_toArray, List.set_cons_zero, List.set_cons_succ]
          generalize hy15 : y12.alloc (.cells #[.slice none 0 0, .slice none 0 0, .slice none 0 0] 25) = y15 at *
          clear hy15
          refine wpAnyT_one (i := 3) rfl (by kernel_rfl) (by rfl) (fun K hK => ?_)
          go_simp
          refine (hc2 y15 hBel).mono ?_
          rintro e y16 ⟨h2, rfl, hO, hBx⟩
          obtain ⟨X21, x21, X22, x22, X23, x23⟩ := h2
          have hBel' := hBel.trans (hBx.mono hBel.size)
          try dsimp only [dfaV, dfaC]
          refine hK _ _ (fun _ _ => hSo _ hBel') ?_
          have s16 := hBx.size
          have q5 := (hBx.block _ (by omega)).trans q5
          have q4 := (hBx.block _ (by omega)).trans q4
          have o1 := o1.below hBx
          have o2 := (DfaO.g hO).bound
          clear hO hBel hBx
          have hBel := hBel'
          clear hBel'
          clear hK K
          try simp only [Act.put, List.setIfInBounds_toArray, List.set_cons_zero, List.set_cons_succ]
          obtain ⟨c0, c1, c2⟩ := cells3 q4
          have cf : ∀ j, y16.frozen? ⟨y12.heap.size, j, none⟩ = false := fun j => frozen_of_row _ _ j _ _ q4
          refine wpAnyT_one (i := 6) rfl (by kernel_rfl) (by rfl) (fun K hK => ?_)
          go_simp
          refine hK _ _ (fun _ _ => hSo _ (((hBel.setCell (p := ⟨y12.heap.size, 0, none⟩) (by show W1.heap.size ≤ y12.heap.size; omega) _).setCell (p := ⟨y12.heap.size, 1, none⟩) (by show W1.heap.size ≤ y12.heap.size; omega) _).setCell (p := ⟨y12.heap.size, 2, none⟩) (by show W1.heap.size ≤ y12.heap.size; omega) _)) ?_
          clear hK K
          try simp only [Act.put, List.setIfInBounds_toArray, List.set_cons_zero, List.set_cons_succ]
          have hne : y12.heap.size ≠ y1.heap.size := by omega
          have r5 := (Below.heap_setCell ((y16.setCell ⟨y12.heap.size, 0, none⟩ (.slice X11 a.cls.length x11)).setCell ⟨y12.heap.size, 1, none⟩ (.slice X12 a.next.length x12)) ⟨y12.heap.size, 2, none⟩ (.slice X13 a.marks.length x13) _ (fun e => hne e.symm)).trans ((Below.heap_setCell (y16.setCell ⟨y12.heap.size, 0, none⟩ (.slice X11 a.cls.length x11)) ⟨y12.heap.size, 1, none⟩ (.slice X12 a.next.length x12) _ (fun e => hne e.symm)).trans ((Below.heap_setCell y16 ⟨y12.heap.size, 0, none⟩ (.slice X11 a.cls.length x11) _ (fun e => hne e.symm)).trans q5))
          obtain ⟨d0, d1, d2⟩ := cells3 r5
          have df := fun j => frozen_of_row _ _ j _ _ r5
          clear c0 c1 c2 cf
          refine wpAnyT_one (i := 7) rfl (by kernel_rfl) (by rfl) (fun K hK => ?_)
          generalize hyz : ((y16.setCell ⟨y12.heap.size, 0, none⟩ (.slice X11 a.cls.length x11)).setCell ⟨y12.heap.size, 1, none⟩ (.slice X12 a.next.length x12)).setCell ⟨y12.heap.size, 2, none⟩ (.slice X13 a.marks.length x13) = yz at *
          have HYZ := Lib.hid hyz
          clear hyz
          go_simp
          refine hK _ _ (no_need (by kernel_rfl)) ?_
          clear hK K
          try simp only [Act.put, List.setIfInBounds_toArray, List.set_cons_zero, List.set_cons_succ]
          refine wpAnyT_done (by kernel_rfl) ?_ _
          refine NoPanic.normal ?_
          clear d0 d1 d2 df
          go_wp2_with fail
          go_meet
          exact ⟨_, _, ⟨X11, x11, X12, x12, X13, x13⟩, ⟨X21, x21, X22, x22, X23, x23⟩, rfl, rfl, two_put q4 q5 hne (o1.lower (by omega)) (o2.lower (by omega)) (fun k hk => by omega) (fun k hk => by omega) hBel (by omega) (by omega) _ (by rw [HYZ.out]), by omega, by omega⟩
    · go_simp
      refine hK _ _ (fun _ _ => hSo _ (hBel.alloc hBel.size _)) ?_
      have s17 : y0.heap.size < (y0.alloc (.cells #[.slice none 0 0, .slice none 0 0, .slice none 0 0] 25)).heap.size := by simp
      have q4 := World.alloc_heap_new y0 (.cells #[.slice none 0 0, .slice none 0 0, .slice none 0 0] 25)
      have hBel' := hBel.alloc hBel.size (.cells #[.slice none 0 0, .slice none 0 0, .slice none 0 0] 25)
      clear hBel
      have hBel := hBel'
      clear hBel'
      clear hK K
      try simp only [Act.put, List.setIfInBounds_toArray, List.set_cons_zero, List.set_cons_succ]
      generalize hy17 : y0.alloc (.cells #[.slice none 0 0, .slice none 0 0, .slice none 0 0] 25) = y17 at *
      clear hy17
      refine wpAnyT_two (i := 1) (j := 5) rfl rfl (by kernel_rfl) (by rfl) (by rfl) (fun K hK => ?_) (fun K hK => ?_)
      · go_simp
        refine (hc1 y17 hBel).mono ?_
        rintro e y18 ⟨h1, rfl, hO, hBx⟩
        obtain ⟨X11, x11, X12, x12, X13, x13⟩ := h1
        have hBel' := hBel.trans (hBx.mono hBel.size)
        try dsimp only [dfaV, dfaC]
        refine hK _ _ (fun _ _ => hSo _ hBel') ?_
        have s18 := hBx.size
        have q4 := (hBx.block _ (by omega)).trans q4
        have o1 := (DfaO.g hO).bound
        clear hO hBel hBx
        have hBel := hBel'
        clear hBel'
        clear hK K
        try simp only [Act.put, List.setIfInBounds_toArray, List.set_cons_zero, List.set_cons_succ]
        refine wpAnyT_two (i := 3) (j := 5) rfl rfl (by kernel_rfl) (by rfl) (by rfl) (fun K hK => ?_) (fun K hK => ?_)
        · go_simp
          refine (hc2 y18 hBel).mono ?_
          rintro e y19 ⟨h2, rfl, hO, hBx⟩
          obtain ⟨X21, x21, X22, x22, X23, x23⟩ := h2
          have hBel' := hBel.trans (hBx.mono hBel.size)
          try dsimp only [dfaV, dfaC]
          refine hK _ _ (fun _ _ => hSo _ hBel') ?_
          have s19 := hBx.size
          have q4 := (hBx.block _ (by omega)).trans q4
          have o1 := o1.below hBx
          have o2 := (DfaO.g hO).bound
          clear hO hBel hBx
          have hBel := hBel'
          clear hBel'
          clear hK K
          try simp only [Act.put, List.setIfInBounds_toArray, List.set_cons_zero, List.set_cons_succ]
          refine wpAnyT_one (i := 5) rfl (by kernel_rfl) (by rfl) (fun K hK => ?_)
          go_simp
          refine hK _ _ (fun _ _ => hSo _ (hBel.alloc hBel.size _)) ?_
          have s20 : y19.heap.size < (y19.alloc (.cells #[.slice none 0 0, .slice none 0 0, .slice none 0 0] 25)).heap.size := by simp
          have q4 := (Below.heap_alloc y19 (.cells #[.slice none 0 0, .slice none 0 0, .slice none 0 0] 25) _ (by omega)).trans q4
          have o1 := o1.step (w' := y19.alloc (.cells #[.slice none 0 0, .slice none 0 0, .slice none 0 0] 25)) fun b _ hl => Below.heap_alloc _ _ b hl
          have o2 := o2.step (w' := y19.alloc (.cells #[.slice none 0 0, .slice none 0 0, .slice none 0 0] 25)) fun b _ hl => Below.heap_alloc _ _ b hl
          have q5 := World.alloc_heap_new y19 (.cells #[.slice none 0 0, .slice none 0 0, .slice none 0 0] 25)
          have hBel' := hBel.alloc hBel.size (.cells #[.slice none 0 0, .slice none 0 0, .slice none 0 0] 25)
          clear hBel
          have hBel := hBel'
          clear hBel'
          clear hK K
          try simp only [Act.put, List.setIfInBounds_toArray, List.set_cons_zero, List.set_cons_succ]
          generalize hy20 : y19.alloc (.cells #[.slice none 0 0, .slice none 0 0, .slice none 0 0] 25) = y20 at *
          clear hy20
          obtain ⟨c0, c1, c2⟩ := cells3 q4
          have cf : ∀ j, y20.frozen? ⟨y0.heap.size, j, none⟩ = false := fun j => frozen_of_row _ _ j _ _ q4
          refine wpAnyT_one (i := 6) rfl (by kernel_rfl) (by rfl) (fun K hK => ?_)
          go_simp
          refine hK _ _ (fun _ _ => hSo _ (((hBel.setCell (p := ⟨y0.heap.size, 0, none⟩) (by show W1.heap.size ≤ y0.heap.size; omega) _).setCell (p := ⟨y0.heap.size, 1, none⟩) (by show W1.heap.size ≤ y0.heap.size; omega) _).setCell (p := ⟨y0.heap.size, 2, none⟩) (by show W1.heap.size ≤ y0.heap.size; omega) _)) ?_
          clear hK K
          try simp only [Act.put, List.setIfInBounds_toArray, List.set_cons_zero, List.set_cons_succ]
          have hne : y0.heap.size ≠ y19.heap.size := by omega
          have r5 := (Below.heap_setCell ((y20.setCell ⟨y0.heap.size, 0, none⟩ (.slice X11 a.cls.length x11)).setCell ⟨y0.heap.size, 1, none⟩ (.slice X12 a.next.length x12)) ⟨y0.heap.size, 2, none⟩ (.slice X13 a.marks.length x13) _ (fun e => hne e.symm)).trans ((Below.heap_setCell (y20.setCell ⟨y0.heap.size, 0, none⟩ (.slice X11 a.cls.length x11)) ⟨y0.heap.size, 1, none⟩ (.slice X12 a.next.length x12) _ (fun e => hne e.symm)).trans ((Below.heap_setCell y20 ⟨y0.heap.size, 0, none⟩ (.slice X11 a.cls.length x11) _ (fun e => hne e.symm)).trans q5))
          obtain ⟨d0, d1, d2⟩ := cells3 r5
          have df := fun j => frozen_of_row _ _ j _ _ r5
          clear c0 c1 c2 cf
          refine wpAnyT_one (i := 7) rfl (by kernel_rfl) (by rfl) (fun K hK => ?_)
          generalize hyz : ((y20.setCell ⟨y0.heap.size, 0, none⟩ (.slice X11 a.cls.length x11)).setCell ⟨y0.heap.size, 1, none⟩ (.slice X12 a.next.length x12)).setCell ⟨y0.heap.size, 2, none⟩ (.slice X13 a.marks.length x13) = yz at *
          have HYZ := Lib.hid hyz
          clear hyz
          go_simp
          refine hK _ _ (no_need (by kernel_rfl)) ?_
          clear hK K
          try simp only [Act.put, List.setIfInBounds_toArray, List.set_cons_zero, List.set_cons_succ]
          refine wpAnyT_done (by kernel_rfl) ?_ _
          refine NoPanic.normal ?_
          clear d0 d1 d2 df
          go_wp2_with fail
          go_meet
          exact ⟨_, _, ⟨X11, x11, X12, x12, X13, x13⟩, ⟨X21, x21, X22, x22, X23, x23⟩, rfl, rfl, two_put q4 q5 hne (o1.lower (by omega)) (o2.lower (by omega)) (fun k hk => by omega) (fun k hk => by omega) hBel (by omega) (by omega) _ (by rw [HYZ.out]), by omega, by omega⟩
        · go_simp
          refine hK _ _ (fun _ _ => hSo _ (hBel.alloc hBel.size _)) ?_
          have s21 : y18.heap.size < (y18.alloc (.cells #[.slice none 0 0, .slice none 0 0, .slice none 0 0] 25)).heap.size := by simp
          have q4 := (Below.heap_alloc y18 (.cells #[.slice none 0 0, .slice none 0 0, .slice none 0 0] 25) _ (by omega)).trans q4
          have o1 := o1.step (w' := y18.alloc (.cells #[.slice none 0 0, .slice none 0 0, .slice none 0 0] 25)) fun b _ hl => Below.heap_alloc _ _ b hl
          have q5 := World.alloc_heap_new y18 (.cells #[.slice none 0 0, .slice none 0 0, .slice none 0 0] 25)
          have hBel' := hBel.alloc hBel.size (.cells #[.slice none 0 0, .slice none 0 0, .slice none 0 0] 25)
          clear hBel
          have hBel := hBel'
          clear hBel'
          clear hK K
          try simp only [Act.put, List.setIfInBounds_toArray, List.set_cons_zero, List.set_cons_succ]
          generalize hy21 : y18.alloc (.cells #[.slice none 0 0, .slice none 0 0, .slice none 0 0] 25) = y21 at *
          clear hy21
          refine wpAnyT_one (i := 3) rfl (by kernel_rfl) (by rfl) (fun K hK => ?_)
          go_simp
          refine (hc2 y21 hBel).mono ?_
          rintro e y22 ⟨h2, rfl, hO, hBx⟩
          obtain ⟨X21, x21, X22, x22, X23, x23⟩ := h2
          have hBel' := hBel.trans (hBx.mono hBel.size)
          try dsimp only [dfaV, dfaC]
          refine hK _ _ (fun _ _ => hSo _ hBel') ?_
          have s22 := hBx.size
          have q4 := (hBx.block _ (by omega)).trans q4
          have q5 := (hBx.block _ (by omega)).trans q5
          have o1 := o1.below hBx
          have o2 := (DfaO.g hO).bound
          clear hO hBel hBx
          have hBel := hBel'
          clear hBel'
          clear hK K
          try simp only [Act.put, List.setIfInBounds_toArray, List.set_cons_zero, List.set_cons_succ]
          obtain ⟨c0, c1, c2⟩ := cells3 q4
          have cf : ∀ j, y22.frozen? ⟨y0.heap.size, j, none⟩ = false := fun j => frozen_of_row _ _ j _ _ q4
          refine wpAnyT_one (i := 6) rfl (by kernel_rfl) (by rfl) (fun K hK => ?_)
          go_simp
          refine hK _ _ (fun _ _ => hSo _ (((hBel.setCell (p := ⟨y0.heap.size, 0, none⟩) (by show W1.heap.size ≤ y0.heap.size; omega) _).setCell (p := ⟨y0.heap.size, 1, none⟩) (by show W1.heap.size ≤ y0.heap.size; omega) _).setCell (p := ⟨y0.heap.size, 2, none⟩) (by show W1.heap.size ≤ y0.heap.size; omega) _)) ?_
          clear hK K
          try simp only [Act.put, List.setIfInBounds_toArray, List.set_cons_zero, List.set_cons_succ]
          have hne : y0.heap.size ≠ y18.heap.size := by omega
          have r5 := (Below.heap_setCell ((y22.setCell ⟨y0.heap.size, 0, none⟩ (.slice X11 a.cls.length x11)).setCell ⟨y0.heap.size, 1, none⟩ (.slice X12 a.next.length x12)) ⟨y0.heap.size, 2, none⟩ (.slice X13 a.marks.length x13) _ (fun e => hne e.symm)).trans ((Below.heap_setCell (y22.setCell ⟨y0.heap.size, 0, none⟩ (.slice X11 a.cls.length x11)) ⟨y0.heap.size, 1, none⟩ (.slice X12 a.next.length x12) _ (fun e => hne e.symm)).trans ((Below.heap_setCell y22 ⟨y0.heap.size, 0, none⟩ (.slice X11 a.cls.length x11) _ (fun e => hne e.symm)).trans q5))
          obtain ⟨d0, d1, d2⟩ := cells3 r5
          have df := fun j => frozen_of_row _ _ j _ _ r5
          clear c0 c1 c2 cf
          refine wpAnyT_one (i := 7) rfl (by kernel_rfl) (by rfl) (fun K hK => ?_)
          generalize hyz : ((y22.setCell ⟨y0.heap.size, 0, none⟩ (.slice X11 a.cls.length x11)).setCell ⟨y0.heap.size, 1, none⟩ (.slice X12 a.next.length x12)).setCell ⟨y0.heap.size, 2, none⟩ (.slice X13 a.marks.length x13) = yz at *
          have HYZ := Lib.hid hyz
          clear hyz
          go_simp
          refine hK _ _ (no_need (by kernel_rfl)) ?_
          clear hK K
          try simp only [Act.put, List.setIfInBounds_toArray, List.set_cons_zero, List.set_cons_succ]
          refine wpAnyT_done (by kernel_rfl) ?_ _
          refine NoPanic.normal ?_
          clear d0 d1 d2 df
          go_wp2_with fail
          go_meet
          exact ⟨_, _, ⟨X11, x11, X12, x12, X13, x13⟩, ⟨X21, x21, X22, x22, X23, x23⟩, rfl, rfl, two_put q4 q5 hne (o1.lower (by omega)) (o2.lower (by omega)) (fun k hk => by omega) (fun k hk => by omega) hBel (by omega) (by omega) _ (by rw [HYZ.out]), by omega, by omega⟩
      · go_simp
        refine hK _ _ (fun _ _ => hSo _ (hBel.alloc hBel.size _)) ?_
        have s23 : y17.heap.size < (y17.alloc (.cells #[.slice none 0 0, .slice none 0 0, .slice none 0 0] 25)).heap.size := by simp
        have q4 := (Below.heap_alloc y17 (.cells #[.slice none 0 0, .slice none 0 0, .slice none 0 0] 25) _ (by omega)).trans q4
        have q5 := World.alloc_heap_new y17 (.cells #[.slice none 0 0, .slice none 0 0, .slice none 0 0] 25)
        have hBel' := hBel.alloc hBel.size (.cells #[.slice none 0 0, .slice none 0 0, .slice none 0 0] 25)
        clear hBel
        have hBel := hBel'
        clear hBel'
        clear hK K
        try simp only [Act.put, List.setIfInBounds_toArray, List.set_cons_zero, List.set_cons_succ]
        generalize hy23 : y17.alloc (.cells #[.slice none 0 0, .slice none 0 0, .slice none 0 0] 25) = y23 at *
        clear hy23
        refine wpAnyT_one (i := 1) rfl (by kernel_rfl) (by rfl) (fun K hK => ?_)
        go_simp
        refine (hc1 y23 hBel).mono ?_
        rintro e y24 ⟨h1, rfl, hO, hBx⟩
        obtain ⟨X11, x11, X12, x12, X13, x13⟩ := h1
        have hBel' := hBel.trans (hBx.mono hBel.size)
        try dsimp only [dfaV, dfaC]
        refine hK _ _ (fun _ _ => hSo _ hBel') ?_
        have s24 := hBx.size
        have q4 := (hBx.block _ (by omega)).trans q4
        have q5 := (hBx.block _ (by omega)).trans q5
        have o1 := (DfaO.g hO).bound
        clear hO hBel hBx
        have hBel := hBel'
        clear hBel'
        clear hK K
        try simp only [Act.put, List.setIfInBounds_toArray, List.set_cons_zero, List.set_cons_succ]
        refine wpAnyT_one (i := 3) rfl (by kernel_rfl) (by rfl) (fun K hK => ?_)
        go_simp
        refine (hc2 y24 hBel).mono ?_
        rintro e y25 ⟨h2, rfl, hO, hBx⟩
        obtain ⟨X21, x21, X22, x22, X23, x23⟩ := h2
        have hBel' := hBel.trans (hBx.mono hBel.size)
        try dsimp only [dfaV, dfaC]
        refine hK _ _ (fun _ _ => hSo _ hBel') ?_
        have s25 := hBx.size
        have q4 := (hBx.block _ (by omega)).trans q4
        have q5 := (hBx.block _ (by omega)).trans q5
        have o1 := o1.below hBx
        have o2 := (DfaO.g hO).bound
        clear hO hBel hBx
        have hBel := hBel'
        clear hBel'
        clear hK K
        try simp only [Act.put, List.setIfInBounds_toArray, List.set_cons_zero, List.set_cons_succ]
        obtain ⟨c0, c1, c2⟩ := cells3 q4
        have cf : ∀ j, y25.frozen? ⟨y0.heap.size, j, none⟩ = false := fun j => frozen_of_row _ _ j _ _ q4
        refine wpAnyT_one (i := 6) rfl (by kernel_rfl) (by rfl) (fun K hK => ?_)
        go_simp
        refine hK _ _ (fun _ _ => hSo _ (((hBel.setCell (p := ⟨y0.heap.size, 0, none⟩) (by show W1.heap.size ≤ y0.heap.size; omega) _).setCell (p := ⟨y0.heap.size, 1, none⟩) (by show W1.heap.size ≤ y0.heap.size; omega) _).setCell (p := ⟨y0.heap.size, 2, none⟩) (by show W1.heap.size ≤ y0.heap.size; omega) _)) ?_
        clear hK K
        try simp only [Act.put, List.setIfInBounds_toArray, List.set_cons_zero, List.set_cons_succ]
        have hne : y0.heap.size ≠ y17.heap.size := by omega
        have r5 := (Below.heap_setCell ((y25.setCell ⟨y0.heap.size, 0, none⟩ (.slice X11 a.cls.length x11)).setCell ⟨y0.heap.size, 1, none⟩ (.slice X12 a.next.length x12)) ⟨y0.heap.size, 2, none⟩ (.slice X13 a.marks.length x13) _ (fun e => hne e.symm)).trans ((Below.heap_setCell (y25.setCell ⟨y0.heap.size, 0, none⟩ (.slice X11 a.cls.length x11)) ⟨y0.heap.size, 1, none⟩ (.slice X12 a.next.length x12) _ (fun e => hne e.symm)).trans ((Below.heap_setCell y25 ⟨y0.heap.size, 0, none⟩ (.slice X11 a.cls.length x11) _ (fun e => hne e.symm)).trans q5))
        obtain ⟨d0, d1, d2⟩ := cells3 r5
        have df := fun j => frozen_of_row _ _ j _ _ r5
        clear c0 c1 c2 cf
        refine wpAnyT_one (i := 7) rfl (by kernel_rfl) (by rfl) (fun K hK => ?_)
        generalize hyz : ((y25.setCell ⟨y0.heap.size, 0, none⟩ (.slice X11 a.cls.length x11)).setCell ⟨y0.heap.size, 1, none⟩ (.slice X12 a.next.length x12)).setCell ⟨y0.heap.size, 2, none⟩ (.slice X13 a.marks.length x13) = yz at *
        have HYZ := Lib.hid hyz
        clear hyz
        go_simp
        refine hK _ _ (no_need (by kernel_rfl)) ?_
        clear hK K
        try simp only [Act.put, List.setIfInBounds_toArray, List.set_cons_zero, List.set_cons_succ]
        refine wpAnyT_done (by kernel_rfl) ?_ _
        refine NoPanic.normal ?_
        clear d0 d1 d2 df
        go_wp2_with fail
        go_meet
        exact ⟨_, _, ⟨X11, x11, X12, x12, X13, x13⟩, ⟨X21, x21, X22, x22, X23, x23⟩, rfl, rfl, two_put q4 q5 hne (o1.lower (by omega)) (o2.lower (by omega)) (fun k hk => by omega) (fun k hk => by omega) hBel (by omega) (by omega) _ (by rw [HYZ.out]), by omega, by omega⟩
    · go_simp
      refine hK _ _ (fun _ _ => hSo _ (hBel.alloc hBel.size _)) ?_
      have s26 : y0.heap.size < (y0.alloc (.cells #[.slice none 0 0, .slice none 0 0, .slice none 0 0] 25)).heap.size := by simp
      have q5 := World.alloc_heap_new y0 (.cells #[.slice none 0 0, .slice none 0 0, .slice none 0 0] 25)
      have hBel' := hBel.alloc hBel.size (.cells #[.slice none 0 0, .slice none 0 0, .slice none 0 0] 25)
      clear hBel
      have hBel := hBel'
      clear hBel'
      clear hK K
      try simp only [Act.put, List.setIfInBounds_toArray, List.set_cons_zero, List.set_cons_succ]
      generalize hy26 : y0.alloc (.cells #[.slice none 0 0, .slice none 0 0, .slice none 0 0] 25) = y26 at *
      clear hy26
      refine wpAnyT_two (i := 1) (j := 4) rfl rfl (by kernel_rfl) (by rfl) (by rfl) (fun K hK => ?_) (fun K hK => ?_)
      · go_simp
        refine (hc1 y26 hBel).mono ?_
        rintro e y27 ⟨h1, rfl, hO, hBx⟩
        obtain ⟨X11, x11, X12, x12, X13, x13⟩ := h1
        have hBel' := hBel.trans (hBx.mono hBel.size)
        try dsimp only [dfaV, dfaC]
        refine hK _ _ (fun _ _ => hSo _ hBel') ?_
        have s27 := hBx.size
        have q5 := (hBx.block _ (by omega)).trans q5
        have o1 := (DfaO.g hO).bound
        clear hO hBel hBx
        have hBel := hBel'
        clear hBel'
        clear hK K
        try simp only [Act.put, List.setIfInBounds_toArray, List.set_cons_zero, List.set_cons_succ]
        refine wpAnyT_two (i := 3) (j := 4) rfl rfl (by kernel_rfl) (by rfl) (by rfl) (fun K hK => ?_) (fun K hK => ?_)
        · go_simp
          refine (hc2 y27 hBel).mono ?_
          rintro e y28 ⟨h2, rfl, hO, hBx⟩
          obtain ⟨X21, x21, X22, x22, X23, x23⟩ := h2
          have hBel' := hBel.trans (hBx.mono hBel.size)
          try dsimp only [dfaV, dfaC]
          refine hK _ _ (fun _ _ => hSo _ hBel') ?_
          have s28 := hBx.size
          have q5 := (hBx.block _ (by omega)).trans q5
          have o1 := o1.below hBx
          have o2 := (DfaO.g hO).bound
          clear hO hBel hBx
          have hBel := hBel'
          clear hBel'
          clear hK K
          try simp only [Act.put, List.setIfInBounds_toArray, List.set_cons_zero, List.set_cons_succ]
          refine wpAnyT_one (i := 4) rfl (by kernel_rfl) (by rfl) (fun K hK => ?_)
          go_simp
          refine hK _ _ (fun _ _ => hSo _ (hBel.alloc hBel.size _)) ?_
          have s29 : y28.heap.size < (y28.alloc (.cells #[.slice none 0 0, .slice none 0 0, .slice none 0 0] 25)).heap.size := by simp
          have q5 := (Below.heap_alloc y28 (.cells #[.slice none 0 0, .slice none 0 0, .slice none 0 0] 25) _ (by omega)).trans q5
          have o1 := o1.step (w' := y28.alloc (.cells #[.slice none 0 0, .slice none 0 0, .slice none 0 0] 25)) fun b _ hl => Below.heap_alloc _ _ b hl
          have o2 := o2.step (w' := y28.alloc (.cells #[.slice none 0 0, .slice none 0 0, .slice none 0 0] 25)) fun b _ hl => Below.heap_alloc _ _ b hl
          have q4 := World.alloc_heap_new y28 (.cells #[.slice none 0 0, .slice none 0 0, .slice none 0 0] 25)
          have hBel' := hBel.alloc hBel.size (.cells #[.slice none 0 0, .slice none 0 0, .slice none 0 0] 25)
          clear hBel
          have hBel := hBel'
          clear hBel'
          clear hK K
          try simp only [Act.put, List.setIfInBounds_toArray, List.set_cons_zero, List.set_cons_succ]
          generalize hy29 : y28.alloc (.cells #[.slice none 0 0, .slice none 0 0, .slice none 0 0] 25) = y29 at *
          clear hy29
          obtain ⟨c0, c1, c2⟩ := cells3 q4
          have cf : ∀ j, y29.frozen? ⟨y28.heap.size, j, none⟩ = false := fun j => frozen_of_row _ _ j _ _ q4
          refine wpAnyT_one (i := 6) rfl (by kernel_rfl) (by rfl) (fun K hK => ?_)
          go_simp
          refine hK _ _ (fun _ _ => hSo _ (((hBel.setCell (p := ⟨y28.heap.size, 0, none⟩) (by show W1.heap.size ≤ y28.heap.size; omega) _).setCell (p := ⟨y28.heap.size, 1, none⟩) (by show W1.heap.size ≤ y28.heap.size; omega) _).setCell (p := ⟨y28.heap.size, 2, none⟩) (by show W1.heap.size ≤ y28.heap.size; omega) _)) ?_
          clear hK K
          try simp only [Act.put, List.setIfInBounds_toArray, List.set_cons_zero, List.set_cons_succ]
          have hne : y28.heap.size ≠ y0.heap.size := by omega
          have r5 := (Below.heap_setCell ((y29.setCell ⟨y28.heap.size, 0, none⟩ (.slice X11 a.cls.length x11)).setCell ⟨y28.heap.size, 1, none⟩ (.slice X12 a.next.length x12)) ⟨y28.heap.size, 2, none⟩ (.slice X13 a.marks.length x13) _ (fun e => hne e.symm)).trans ((Below.heap_setCell (y29.setCell ⟨y28.heap.size, 0, none⟩ (.slice X11 a.cls.length x11)) ⟨y28.heap.size, 1, none⟩ (.slice X12 a.next.length x12) _ (fun e => hne e.symm)).trans ((Below.heap_setCell y29 ⟨y28.heap.size, 0, none⟩ (.slice X11 a.cls.length x11) _ (fun e => hne e.symm)).trans q5))
          obtain ⟨d0, d1, d2⟩ := cells3 r5
          have df := fun j => frozen_of_row _ _ j _ _ r5
          clear c0 c1 c2 cf
          refine wpAnyT_one (i := 7) rfl (by kernel_rfl) (by rfl) (fun K hK => ?_)
          generalize hyz : ((y29.setCell ⟨y28.heap.size, 0, none⟩ (.slice X11 a.cls.length x11)).setCell ⟨y28.heap.size, 1, none⟩ (.slice X12 a.next.length x12)).setCell ⟨y28.heap.size, 2, none⟩ (.slice X13 a.marks.length x13) = yz at *
          have HYZ := Lib.hid hyz
          clear hyz
          go_simp
          refine hK _ _ (no_need (by kernel_rfl)) ?_
          clear hK K
          try simp only [Act.put, List.setIfInBounds_toArray, List.set_cons_zero, List.set_cons_succ]
          refine wpAnyT_done (by kernel_rfl) ?_ _
          refine NoPanic.normal ?_
          clear d0 d1 d2 df
          go_wp2_with fail
          go_meet
          exact ⟨_, _, ⟨X11, x11, X12, x12, X13, x13⟩, ⟨X21, x21, X22, x22, X23, x23⟩, rfl, rfl, two_put q4 q5 hne (o1.lower (by omega)) (o2.lower (by omega)) (fun k hk => by omega) (fun k hk => by omega) hBel (by omega) (by omega) _ (by rw [HYZ.out]), by omega, by omega⟩
        · go_simp
          refine hK _ _ (fun _ _ => hSo _ (hBel.alloc hBel.size _)) ?_
          have s30 : y27.heap.size < (y27.alloc (.cells #[.slice none 0 0, .slice none 0 0, .slice none 0 0] 25)).heap.size := by simp
          have q5 := (Below.heap_alloc y27 (.cells #[.slice none 0 0, .slice none 0 0, .slice none 0 0] 25) _ (by omega)).trans q5
          have o1 := o1.step (w' := y27.alloc (.cells #[.slice none 0 0, .slice none 0 0, .slice none 0 0] 25)) fun b _ hl => Below.heap_alloc _ _ b hl
          have q4 := World.alloc_heap_new y27 (.cells #[.slice none 0 0, .slice none 0 0, .slice none 0 0] 25)
          have hBel' := hBel.alloc hBel.size (.cells #[.slice none 0 0, .slice none 0 0, .slice none 0 0] 25)
          clear hBel
          have hBel := hBel'
          clear hBel'
          clear hK K
          try simp only [Act.put, List.setIfInBounds_toArray, List.set_cons_zero, List.set_cons_succ]
          generalize hy30 : y27.alloc (.cells #[.slice none 0 0, .slice none 0 0, .slice none 0 0] 25) = y30 at *
          clear hy30
          refine wpAnyT_one (i := 3) rfl (by kernel_rfl) (by rfl) (fun K hK => ?_)
          go_simp
          refine (hc2 y30 hBel).mono ?_
          rintro e y31 ⟨h2, rfl, hO, hBx⟩
          obtain ⟨X21, x21, X22, x22, X23, x23⟩ := h2
          have hBel' := hBel.trans (hBx.mono hBel.size)
          try dsimp only [dfaV, dfaC]
          refine hK _ _ (fun _ _ => hSo _ hBel') ?_
          have s31 := hBx.size
          have q5 := (hBx.block _ (by omega)).trans q5
          have q4 := (hBx.block _ (by omega)).trans q4
          have o1 := o1.below hBx
          have o2 := (DfaO.g hO).bound
          clear hO hBel hBx
          have hBel := hBel'
          clear hBel'
          clear hK K
          try simp only [Act.put, List.setIfInBounds_toArray, List.set_cons_zero, List.set_cons_succ]
          obtain ⟨c0, c1, c2⟩ := cells3 q4
          have cf : ∀ j, y31.frozen? ⟨y27.heap.size, j, none⟩ = false := fun j => frozen_of_row _ _ j _ _ q4
          refine wpAnyT_one (i := 6) rfl (by kernel_rfl) (by rfl) (fun K hK => ?_)
          go_simp
          refine hK _ _ (fun _ _ => hSo _ (((hBel.setCell (p := ⟨y27.heap.size, 0, none⟩) (by show W1.heap.size ≤ y27.heap.size; omega) _).setCell (p := ⟨y27.heap.size, 1, none⟩) (by show W1.heap.size ≤ y27.heap.size; omega) _).setCell (p := ⟨y27.heap.size, 2, none⟩) (by show W1.heap.size ≤ y27.heap.size; omega) _)) ?_
          clear hK K
          try simp only [Act.put, List.setIfInBounds_toArray, List.set_cons_zero, List.set_cons_succ]
          have hne : y27.heap.size ≠ y0.heap.size := by omega
          have r5 := (Below.heap_setCell ((y31.setCell ⟨y27.heap.size, 0, none⟩ (.slice X11 a.cls.length x11)).setCell ⟨y27.heap.size, 1, none⟩ (.slice X12 a.next.length x12)) ⟨y27.heap.size, 2, none⟩ (.slice X13 a.marks.length x13) _ (fun e => hne e.symm)).trans ((Below.heap_setCell (y31.setCell ⟨y27.heap.size, 0, none⟩ (.slice X11 a.cls.length x11)) ⟨y27.heap.size, 1, none⟩ (.slice X12 a.next.length x12) _ (fun e => hne e.symm)).trans ((Below.heap_setCell y31 ⟨y27.heap.size, 0, none⟩ (.slice X11 a.cls.length x11) _ (fun e => hne e.symm)).trans q5))
          obtain ⟨d0, d1, d2⟩ := cells3 r5
          have df := fun j => frozen_of_row _ _ j _ _ r5
          clear c0 c1 c2 cf
          refine wpAnyT_one (i := 7) rfl (by kernel_rfl) (by rfl) (fun K hK => ?_)
          generalize hyz : ((y31.setCell ⟨y27.heap.size, 0, none⟩ (.slice X11 a.cls.length x11)).setCell ⟨y27.heap.size, 1, none⟩ (.slice X12 a.next.length x12)).setCell ⟨y27.heap.size, 2, none⟩ (.slice X13 a.marks.length x13) = yz at *
          have HYZ := Lib.hid hyz
          clear hyz
          go_simp
          refine hK _ _ (no_need (by kernel_rfl)) ?_
          clear hK K
          try simp only [Act.put, List.setIfInBounds_toArray, List.set_cons_zero, List.set_cons_succ]
          refine wpAnyT_done (by kernel_rfl) ?_ _
          refine NoPanic.normal ?_
          clear d0 d1 d2 df
          go_wp2_with fail
          go_meet
          exact ⟨_, _, ⟨X11, x11, X12, x12, X13, x13⟩, ⟨X21, x21, X22, x22, X23, x23⟩, rfl, rfl, two_put q4 q5 hne (o1.lower (by omega)) (o2.lower (by omega)) (fun k hk => by omega) (fun k hk => by omega) hBel (by omega) (by omega) _ (by rw [HYZ.out]), by omega, by omega⟩
      · go_simp
        refine hK _ _ (fun _ _ => hSo _ (hBel.alloc hBel.size _)) ?_
        have s32 : y26.heap.size < (y26.alloc (.cells #[.slice none 0 0, .slice none 0 0, .slice none 0 0] 25)).heap.size := by simp
        have q5 := (Below.heap_alloc y26 (.cells #[.slice none 0 0, .slice none 0 0, .slice none 0 0] 25) _ (by omega)).trans q5
        have q4 := World.alloc_heap_new y26 (.cells #[.slice none 0 0, .slice none 0 0, .slice none 0 0] 25)
        have hBel' := hBel.alloc hBel.size (.cells #[.slice none 0 0, .slice none 0 0, .slice none 0 0] 25)
        clear hBel
        have hBel := hBel'
        clear hBel'
        clear hK K
        try simp only [Act.put, List.setIfInBounds_toArray, List.set_cons_zero, List.set_cons_succ]
        generalize hy32 : y26.alloc (.cells #[.slice none 0 0, .slice none 0 0, .slice none 0 0] 25) = y32 at *
        clear hy32
        refine wpAnyT_one (i := 1) rfl (by kernel_rfl) (by rfl) (fun K hK => ?_)
        go_simp
        refine (hc1 y32 hBel).mono ?_
        rintro e y33 ⟨h1, rfl, hO, hBx⟩
        obtain ⟨X11, x11, X12, x12, X13, x13⟩ := h1
        have hBel' := hBel.trans (hBx.mono hBel.size)
        try dsimp only [dfaV, dfaC]
        refine hK _ _ (fun _ _ => hSo _ hBel') ?_
        have s33 := hBx.size
        have q5 := (hBx.block _ (by omega)).trans q5
        have q4 := (hBx.block _ (by omega)).trans q4
        have o1 := (DfaO.g hO).bound
        clear hO hBel hBx
        have hBel := hBel'
        clear hBel'
        clear hK K
        try simp only [Act.put, List.setIfInBounds_toArray, List.set_cons_zero, List.set_cons_succ]
        refine wpAnyT_one (i := 3) rfl (by kernel_rfl) (by rfl) (fun K hK => ?_)
        go_simp
        refine (hc2 y33 hBel).mono ?_
        rintro e y34 ⟨h2, rfl, hO, hBx⟩
        obtain ⟨X21, x21, X22, x22, X23, x23⟩ := h2
        have hBel' := hBel.trans (hBx.mono hBel.size)
        try dsimp only [dfaV, dfaC]
        refine hK _ _ (fun _ _ => hSo _ hBel') ?_
        have s34 := hBx.size
        have q5 := (hBx.block _ (by omega)).trans q5
        have q4 := (hBx.block _ (by omega)).trans q4
        have o1 := o1.below hBx
        have o2 := (DfaO.g hO).bound
        clear hO hBel hBx
        have hBel := hBel'
        clear hBel'
        clear hK K
        try simp only [Act.put, List.setIfInBounds_toArray, List.set_cons_zero, List.set_cons_succ]
        obtain ⟨c0, c1, c2⟩ := cells3 q4
        have cf : ∀ j, y34.frozen? ⟨y26.heap.size, j, none⟩ = false := fun j => frozen_of_row _ _ j _ _ q4
        refine wpAnyT_one (i := 6) rfl (by kernel_rfl) (by rfl) (fun K hK => ?_)
        go_simp
        refine hK _ _ (fun _ _ => hSo _ (((hBel.setCell (p := ⟨y26.heap.size, 0, none⟩) (by show W1.heap.size ≤ y26.heap.size; omega) _).setCell (p := ⟨y26.heap.size, 1, none⟩) (by show W1.heap.size ≤ y26.heap.size; omega) _).setCell (p := ⟨y26.heap.size, 2, none⟩) (by show W1.heap.size ≤ y26.heap.size; omega) _)) ?_
        clear hK K
        try simp only [Act.put, List.setIfInBounds_toArray, List.set_cons_zero, List.set_cons_succ]
        have hne : y26.heap.size ≠ y0.heap.size := by omega
        have r5 := (Below.heap_setCell ((y34.setCell ⟨y26.heap.size, 0, none⟩ (.slice X11 a.cls.length x11)).setCell ⟨y26.heap.size, 1, none⟩ (.slice X12 a.next.length x12)) ⟨y26.heap.size, 2, none⟩ (.slice X13 a.marks.length x13) _ (fun e => hne e.symm)).trans ((Below.heap_setCell (y34.setCell ⟨y26.heap.size, 0, none⟩ (.slice X11 a.cls.length x11)) ⟨y26.heap.size, 1, none⟩ (.slice X12 a.next.length x12) _ (fun e => hne e.symm)).trans ((Below.heap_setCell y34 ⟨y26.heap.size, 0, none⟩ (.slice X11 a.cls.length x11) _ (fun e => hne e.symm)).trans q5))
        obtain ⟨d0, d1, d2⟩ := cells3 r5
        have df := fun j => frozen_of_row _ _ j _ _ r5
        clear c0 c1 c2 cf
        refine wpAnyT_one (i := 7) rfl (by kernel_rfl) (by rfl) (fun K hK => ?_)
        generalize hyz : ((y34.setCell ⟨y26.heap.size, 0, none⟩ (.slice X11 a.cls.length x11)).setCell ⟨y26.heap.size, 1, none⟩ (.slice X12 a.next.length x12)).setCell ⟨y26.heap.size, 2, none⟩ (.slice X13 a.marks.length x13) = yz at *
        have HYZ := Lib.hid hyz
        clear hyz
        go_simp
        refine hK _ _ (no_need (by kernel_rfl)) ?_
        clear hK K
        try simp only [Act.put, List.setIfInBounds_toArray, List.set_cons_zero, List.set_cons_succ]
        refine wpAnyT_done (by kernel_rfl) ?_ _
        refine NoPanic.normal ?_
        clear d0 d1 d2 df
        go_wp2_with fail
        go_meet
        exact ⟨_, _, ⟨X11, x11, X12, x12, X13, x13⟩, ⟨X21, x21, X22, x22, X23, x23⟩, rfl, rfl, two_put q4 q5 hne (o1.lower (by omega)) (o2.lower (by omega)) (fun k hk => by omega) (fun k hk => by omega) hBel (by omega) (by omega) _ (by rw [HYZ.out]), by omega, by omega⟩
  case rest =>
    obtain ⟨g9, g10, h1, h2, rfl, rfl, ⟨r9, r10, o1, o2, hB3⟩, l9, l10⟩ := hcut
    obtain ⟨W3, rfl⟩ : ∃ x : World, x = wc := ⟨_, rfl⟩
    have hBw3 := HB1.out.trans (hB3.mono HB1.out.size)
    have hc1 := fun W' (hW' : Below W3.heap.size W3 W') => HTA.out W' (hBw3.trans (hW'.mono hBw3.size))
    have hc2 := fun W' (hW' : Below W3.heap.size W3 W') => HTB.out W' (hBw3.trans (hW'.mono hBw3.size))
    obtain ⟨a0, a1, a2⟩ := cells3 ((hB3.block _ (by omega)).trans HQ0.out)
    obtain ⟨b0, b1, b2⟩ := cells3 ((hB3.block _ (by omega)).trans HQ1.out)
    have HR9 := Lib.hid r9
    have HR10 := Lib.hid r10
    have HO1 := Lib.hid o1
    have HO2 := Lib.hid o2
    have HBw3 := Lib.hid hBw3
    have hz9 : g9 < W3.heap.size := (Array.getElem?_eq_some_iff.1 r9).1
    have hz10 : g10 < W3.heap.size := (Array.getElem?_eq_some_iff.1 r10).1
    clear r9 r10 o1 o2 hBw3 hB3 HTA HTB
    go_upto_region 2 with (fail)
    go_cut [11, 12] (fun s11 s12 wx => ∃ (g11 g12 : Nat) (h3 h4 : DA), s11 = .pointer (some ⟨g11, 0, none⟩) ∧ s12 = .pointer (some ⟨g12, 0, none⟩) ∧ (wx.heap[g11]? = some (.cells (dfaC h3 a) 42 (0, 0)) ∧ wx.heap[g12]? = some (.cells (dfaC h4 b) 42 (0, 0)) ∧ DfaG Kref 75 36 wx W3.heap.size (fun k => W3.heap.size ≤ k) h3 a ∧ DfaG Kref 75 36 wx W3.heap.size (fun k => W3.heap.size ≤ k) h4 b ∧ Below W3.heap.size W3 wx) ∧ W3.heap.size ≤ g11 ∧ W3.heap.size ≤ g12)
    case first => as_aux_lemma =>
      obtain ⟨SS, hSS⟩ : ∃ S : World → Prop, S = fun w' => Below W3.heap.size W3 w' := ⟨_, rfl⟩
      have hSi : ∀ W', SS W' → Below W3.heap.size W3 W' := fun W' h => by rw [hSS] at h; exact h
      have hSo2 : ∀ W', Below W3.heap.size W3 W' → SS W' := fun W' h => by rw [hSS]; exact h
      clear hSS
      refine wp_region_noPanic (wp_region_T SS [0, 2] (by kernel_rfl) ?_)
      have hBel : Below W3.heap.size W3 W3.drew := (Below.refl _ _).drew
      have hz0 : W3.heap.size ≤ W3.drew.heap.size := Nat.le_refl _
      have hS : SS W3.drew := hSo2 _ hBel
      generalize W3.drew = y0 at *
      refine wpAnyT_take (i := 0) (v := ?v0_3) rfl rfl (by kernel_rfl) (by kernel_rfl) (by kernel_rfl) (fun _ _ _ h => h) (by rfl) hS ?hy0_3 ?r0_3
      case hy0_3 => (intro w hSw; have e0 := bcellS (hSi _ hSw) a0; have e1 := bcellS (hSi _ hSw) a1; have e2 := bcellS (hSi _ hSw) a2; have f0 := bcellS (hSi _ hSw) b0; have f1 := bcellS (hSi _ hSw) b1; have f2 := bcellS (hSi _ hSw) b2; (try dsimp only at hSw); go_simp; try (with_reducible rfl))
      case r0_3 =>
      try simp only [Act.put, List.setIfInBounds_toArray, List.set_cons_zero, List.set_cons_succ]
      refine wpAnyT_take (i := 2) (v := ?v2_4) rfl rfl (by kernel_rfl) (by kernel_rfl) (by kernel_rfl) (fun _ _ _ h => h) (by rfl) hS ?hy2_4 ?r2_4
      case hy2_4 => (intro w hSw; have e0 := bcellS (hSi _ hSw) a0; have e1 := bcellS (hSi _ hSw) a1; have e2 := bcellS (hSi _ hSw) a2; have f0 := bcellS (hSi _ hSw) b0; have f1 := bcellS (hSi _ hSw) b1; have f2 := bcellS (hSi _ hSw) b2; (try dsimp only at hSw); go_simp; try (with_reducible rfl))
      case r2_4 =>
      try simp only [Act.put, List.setIfInBounds_toArray, List.set_cons_zero, List.set_cons_succ]
      clear a0 a1 a2 b0 b1 b2 hSi hS
      refine wpAnyT_three (i := 1) (j := 4) (k := 5) rfl rfl rfl (by kernel_rfl) (by rfl) (by rfl) (by rfl) (fun K hK => ?_) (fun K hK => ?_) (fun K hK => ?_)
      · go_simp
        refine (hc1 y0 hBel).mono ?_
        rintro e y1 ⟨h1, rfl, hO, hBx⟩
        obtain ⟨X11, x11, X12, x12, X13, x13⟩ := h1
        have hBel' := hBel.trans (hBx.mono hBel.size)
        try dsimp only [dfaV, dfaC]
        refine hK _ _ (fun _ _ => hSo2 _ hBel') ?_
        have s1 := hBx.size
        have o1 := (DfaW.g hO).bound
        clear hO hBel hBx
        have hBel := hBel'
        clear hBel'
        clear hK K
        try simp only [Act.put, List.setIfInBounds_toArray, List.set_cons_zero, List.set_cons_succ]
        refine wpAnyT_three (i := 3) (j := 4) (k := 5) rfl rfl rfl (by kernel_rfl) (by rfl) (by rfl) (by rfl) (fun K hK => ?_) (fun K hK => ?_) (fun K hK => ?_)
        · go_simp
          refine (hc2 y1 hBel).mono ?_
          rintro e y2 ⟨h2, rfl, hO, hBx⟩
          obtain ⟨X21, x21, X22, x22, X23, x23⟩ := h2
          have hBel' := hBel.trans (hBx.mono hBel.size)
          try dsimp only [dfaV, dfaC]
          refine hK _ _ (fun _ _ => hSo2 _ hBel') ?_
          have s2 := hBx.size
          have o1 := o1.below hBx
          have o2 := (DfaW.g hO).bound
          clear hO hBel hBx
          have hBel := hBel'
          clear hBel'
          clear hK K
          try simp only [Act.put, List.setIfInBounds_toArray, List.set_cons_zero, List.set_cons_succ]
          refine wpAnyT_two (i := 4) (j := 5) rfl rfl (by kernel_rfl) (by rfl) (by rfl) (fun K hK => ?_) (fun K hK => ?_)
          · go_simp
            refine hK _ _ (fun _ _ => hSo2 _ (hBel.alloc hBel.size _)) ?_
            have s3 : y2.heap.size < (y2.alloc (.cells #[.slice none 0 0, .slice none 0 0, .slice none 0 0] 42)).heap.size := by simp
            have o1 := o1.step (w' := y2.alloc (.cells #[.slice none 0 0, .slice none 0 0, .slice none 0 0] 42)) fun b _ hl => Below.heap_alloc _ _ b hl
            have o2 := o2.step (w' := y2.alloc (.cells #[.slice none 0 0, .slice none 0 0, .slice none 0 0] 42)) fun b _ hl => Below.heap_alloc _ _ b hl
            have q4 := World.alloc_heap_new y2 (.cells #[.slice none 0 0, .slice none 0 0, .slice none 0 0] 42)
            have hBel' := hBel.alloc hBel.size (.cells #[.slice none 0 0, .slice none 0 0, .slice none 0 0] 42)
            clear hBel
            have hBel := hBel'
            clear hBel'
            clear hK K
            try simp only [Act.put, List.setIfInBounds_toArray, List.set_cons_zero, List.set_cons_succ]
            generalize hy3 : y2.alloc (.cells #[.slice none 0 0, .slice none 0 0, .slice none 0 0] 42) = y3 at *
            clear hy3
            refine wpAnyT_one (i := 5) rfl (by kernel_rfl) (by rfl) (fun K hK => ?_)
            go_simp
            refine hK _ _ (fun _ _ => hSo2 _ (hBel.alloc hBel.size _)) ?_
            have s4 : y3.heap.size < (y3.alloc (.cells #[.slice none 0 0, .slice none 0 0, .slice none 0 0] 42)).heap.size := by simp
            have q4 := (Below.heap_alloc y3 (.cells #[.slice none 0 0, .slice none 0 0, .slice none 0 0] 42) _ (by omega)).trans q4
            have o1 := o1.step (w' := y3.alloc (.cells #[.slice none 0 0, .slice none 0 0, .slice none 0 0] 42)) fun b _ hl => Below.heap_alloc _ _ b hl
            have o2 := o2.step (w' := y3.alloc (.cells #[.slice none 0 0, .slice none 0 0, .slice none 0 0] 42)) fun b _ hl => Below.heap_alloc _ _ b hl
            have q5 := World.alloc_heap_new y3 (.cells #[.slice none 0 0, .slice none 0 0, .slice none 0 0] 42)
            have hBel' := hBel.alloc hBel.size (.cells #[.slice none 0 0, .slice none 0 0, .slice none 0 0] 42)
            clear hBel
            have hBel := hBel'
            clear hBel'
            clear hK K
            try simp only [Act.put, List.setIfInBounds_toArray, List.set_cons_zero, List.set_cons_succ]
            generalize hy4 : y3.alloc (.cells #[.slice none 0 0, .slice none 0 0, .slice none 0 0] 42) = y4 at *
            clear hy4
            obtain ⟨c0, c1, c2⟩ := cells3 q4
            have cf : ∀ j, y4.frozen? ⟨y2.heap.size, j, none⟩ = false := fun j => frozen_of_row _ _ j _ _ q4
            refine wpAnyT_one (i := 6) rfl (by kernel_rfl) (by rfl) (fun K hK => ?_)
            go_simp
            refine hK _ _ (fun _ _ => hSo2 _ (((hBel.setCell (p := ⟨y2.heap.size, 0, none⟩) (by show W3.heap.size ≤ y2.heap.size; omega) _).setCell (p := ⟨y2.heap.size, 1, none⟩) (by show W3.heap.size ≤ y2.heap.size; omega) _).setCell (p := ⟨y2.heap.size, 2, none⟩) (by show W3.heap.size ≤ y2.heap.size; omega) _)) ?_
            clear hK K
            try simp only [Act.put, List.setIfInBounds_toArray, List.set_cons_zero, List.set_cons_succ]
            have hne : y2.heap.size ≠ y3.heap.size := by omega
            have r5 := (Below.heap_setCell ((y4.setCell ⟨y2.heap.size, 0, none⟩ (.slice X11 a.cls.length x11)).setCell ⟨y2.heap.size, 1, none⟩ (.slice X12 a.next.length x12)) ⟨y2.heap.size, 2, none⟩ (.slice X13 a.marks.length x13) _ (fun e => hne e.symm)).trans ((Below.heap_setCell (y4.setCell ⟨y2.heap.size, 0, none⟩ (.slice X11 a.cls.length x11)) ⟨y2.heap.size, 1, none⟩ (.slice X12 a.next.length x12) _ (fun e => hne e.symm)).trans ((Below.heap_setCell y4 ⟨y2.heap.size, 0, none⟩ (.slice X11 a.cls.length x11) _ (fun e => hne e.symm)).trans q5))
            obtain ⟨d0, d1, d2⟩ := cells3 r5
            have df := fun j => frozen_of_row _ _ j _ _ r5
            clear c0 c1 c2 cf
            refine wpAnyT_one (i := 7) rfl (by kernel_rfl) (by rfl) (fun K hK => ?_)
            generalize hyz : ((y4.setCell ⟨y2.heap.size, 0, none⟩ (.slice X11 a.cls.length x11)).setCell ⟨y2.heap.size, 1, none⟩ (.slice X12 a.next.length x12)).setCell ⟨y2.heap.size, 2, none⟩ (.slice X13 a.marks.length x13) = yz at *
            have HYZ := Lib.hid hyz
            clear hyz
            go_simp
            refine hK _ _ (no_need (by kernel_rfl)) ?_
            clear hK K
            try simp only [Act.put, List.setIfInBounds_toArray, List.set_cons_zero, List.set_cons_succ]
            refine wpAnyT_done (by kernel_rfl) ?_ _
            refine NoPanic.normal ?_
            clear d0 d1 d2 df
            go_wp2_with fail
            go_meet
            exact ⟨_, _, ⟨X11, x11, X12, x12, X13, x13⟩, ⟨X21, x21, X22, x22, X23, x23⟩, rfl, rfl, two_put q4 q5 hne (o1.lower (by omega)) (o2.lower (by omega)) (fun k hk => by omega) (fun k hk => by omega) hBel (by omega) (by omega) _ (by rw [HYZ.out]), by omega, by omega⟩
          · go_simp
            refine hK _ _ (fun _ _ => hSo2 _ (hBel.alloc hBel.size _)) ?_
            have s5 : y2.heap.size < (y2.alloc (.cells #[.slice none 0 0, .slice none 0 0, .slice none 0 0] 42)).heap.size := by simp
            have o1 := o1.step (w' := y2.alloc (.cells #[.slice none 0 0, .slice none 0 0, .slice none 0 0] 42)) fun b _ hl => Below.heap_alloc _ _ b hl
            have o2 := o2.step (w' := y2.alloc (.cells #[.slice none 0 0, .slice none 0 0, .slice none 0 0] 42)) fun b _ hl => Below.heap_alloc _ _ b hl
            have q5 := World.alloc_heap_new y2 (.cells #[.slice none 0 0, .slice none 0 0, .slice none 0 0] 42)
            have hBel' := hBel.alloc hBel.size (.cells #[.slice none 0 0, .slice none 0 0, .slice none 0 0] 42)
            clear hBel
            have hBel := hBel'
            clear hBel'
            clear hK K
            try simp only [Act.put, List.setIfInBounds_toArray, List.set_cons_zero, List.set_cons_succ]
            generalize hy5 : y2.alloc (.cells #[.slice none 0 0, .slice none 0 0, .slice none 0 0] 42) = y5 at *
            clear hy5
            refine wpAnyT_one (i := 4) rfl (by kernel_rfl) (by rfl) (fun K hK => ?_)
            go_simp
            refine hK _ _ (fun _ _ => hSo2 _ (hBel.alloc hBel.size _)) ?_
            have s6 : y5.heap.size < (y5.alloc (.cells #[.slice none 0 0, .slice none 0 0, .slice none 0 0] 42)).heap.size := by simp
            have q5 := (Below.heap_alloc y5 (.cells #[.slice none 0 0, .slice none 0 0, .slice none 0 0] 42) _ (by omega)).trans q5
            have o1 := o1.step (w' := y5.alloc (.cells #[.slice none 0 0, .slice none 0 0, .slice none 0 0] 42)) fun b _ hl => Below.heap_alloc _ _ b hl
            have o2 := o2.step (w' := y5.alloc (.cells #[.slice none 0 0, .slice none 0 0, .slice none 0 0] 42)) fun b _ hl => Below.heap_alloc _ _ b hl
            have q4 := World.alloc_heap_new y5 (.cells #[.slice none 0 0, .slice none 0 0, .slice none 0 0] 42)
            have hBel' := hBel.alloc hBel.size (.cells #[.slice none 0 0, .slice none 0 0, .slice none 0 0] 42)
            clear hBel
            have hBel := hBel'
            clear hBel'
            clear hK K
            try simp only [Act.put, List.setIfInBounds_toArray, List.set_cons_zero, List.set_cons_succ]
            generalize hy6 : y5.alloc (.cells #[.slice none 0 0, .slice none 0 0, .slice none 0 0] 42) = y6 at *
            clear hy6
            obtain ⟨c0, c1, c2⟩ := cells3 q4
            have cf : ∀ j, y6.frozen? ⟨y5.heap.size, j, none⟩ = false := fun j => frozen_of_row _ _ j _ _ q4
            refine wpAnyT_one (i := 6) rfl (by kernel_rfl) (by rfl) (fun K hK => ?_)
            go_simp
            refine hK _ _ (fun _ _ => hSo2 _ (((hBel.setCell (p := ⟨y5.heap.size, 0, none⟩) (by show W3.heap.size ≤ y5.heap.size; omega) _).setCell (p := ⟨y5.heap.size, 1, none⟩) (by show W3.heap.size ≤ y5.heap.size; omega) _).setCell (p := ⟨y5.heap.size, 2, none⟩) (by show W3.heap.size ≤ y5.heap.size; omega) _)) ?_
            clear hK K
            try simp only [Act.put, List.setIfInBounds_toArray, List.set_cons_zero, List.set_cons_succ]
            have hne : y5.heap.size ≠ y2.heap.size := by omega
            have r5 := (Below.heap_setCell ((y6.setCell ⟨y5.heap.size, 0, none⟩ (.slice X11 a.cls.length x11)).setCell ⟨y5.heap.size, 1, none⟩ (.slice X12 a.next.length x12)) ⟨y5.heap.size, 2, none⟩ (.slice X13 a.marks.length x13) _ (fun e => hne e.symm)).trans ((Below.heap_setCell (y6.setCell ⟨y5.heap.size, 0, none⟩ (.slice X11 a.cls.length x11)) ⟨y5.heap.size, 1, none⟩ (.slice X12 a.next.length x12) _ (fun e => hne e.symm)).trans ((Below.heap_setCell y6 ⟨y5.heap.size, 0, none⟩ (.slice X11 a.cls.length x11) _ (fun e => hne e.symm)).trans q5))
            obtain ⟨d0, d1, d2⟩ := cells3 r5
            have df := fun j => frozen_of_row _ _ j _ _ r5
            clear c0 c1 c2 cf
            refine wpAnyT_one (i := 7) rfl (by kernel_rfl) (by rfl) (fun K hK => ?_)
            generalize hyz : ((y6.setCell ⟨y5.heap.size, 0, none⟩ (.slice X11 a.cls.length x11)).setCell ⟨y5.heap.size, 1, none⟩ (.slice X12 a.next.length x12)).setCell ⟨y5.heap.size, 2, none⟩ (.slice X13 a.marks.length x13) = yz at *
            have HYZ := Lib.hid hyz
            clear hyz
            go_simp
            refine hK _ _ (no_need (by kernel_rfl)) ?_
            clear hK K
            try simp only [Act.put, List.setIfInBounds_toArray, List.set_cons_zero, List.set_cons_succ]
            refine wpAnyT_done (by kernel_rfl) ?_ _
            refine NoPanic.normal ?_
            clear d0 d1 d2 df
            go_wp2_with fail
            go_meet
            exact ⟨_, _, ⟨X11, x11, X12, x12, X13, x13⟩, ⟨X21, x21, X22, x22, X23, x23⟩, rfl, rfl, two_put q4 q5 hne (o1.lower (by omega)) (o2.lower (by omega)) (fun k hk => by omega) (fun k hk => by omega) hBel (by omega) (by omega) _ (by rw [HYZ.out]), by omega, by omega⟩
        · go_simp
          refine hK _ _ (fun _ _ => hSo2 _ (hBel.alloc hBel.size _)) ?_
          have s7 : y1.heap.size < (y1.alloc (.cells #[.slice none 0 0, .slice none 0 0, .slice none 0 0] 42)).heap.size := by simp
          have o1 := o1.step (w' := y1.alloc (.cells #[.slice none 0 0, .slice none 0 0, .slice none 0 0] 42)) fun b _ hl => Below.heap_alloc _ _ b hl
          have q4 := World.alloc_heap_new y1 (.cells #[.slice none 0 0, .slice none 0 0, .slice none 0 0] 42)
          have hBel' := hBel.alloc hBel.size (.cells #[.slice none 0 0, .slice none 0 0, .slice none 0 0] 42)
          clear hBel
          have hBel := hBel'
          clear hBel'
          clear hK K
          try simp only [Act.put, List.setIfInBounds_toArray, List.set_cons_zero, List.set_cons_succ]
          generalize hy7 : y1.alloc (.cells #[.slice none 0 0, .slice none 0 0, .slice none 0 0] 42) = y7 at *
          clear hy7
          refine wpAnyT_two (i := 3) (j := 5) rfl rfl (by kernel_rfl) (by rfl) (by rfl) (fun K hK => ?_) (fun K hK => ?_)
          · go_simp
            refine (hc2 y7 hBel).mono ?_
            rintro e y8 ⟨h2, rfl, hO, hBx⟩
            obtain ⟨X21, x21, X22, x22, X23, x23⟩ := h2
            have hBel' := hBel.trans (hBx.mono hBel.size)
            try dsimp only [dfaV, dfaC]
            refine hK _ _ (fun _ _ => hSo2 _ hBel') ?_
            have s8 := hBx.size
            have q4 := (hBx.block _ (by omega)).trans q4
            have o1 := o1.below hBx
            have o2 := (DfaW.g hO).bound
            clear hO hBel hBx
            have hBel := hBel'
            clear hBel'
            clear hK K
            try simp only [Act.put, List.setIfInBounds_toArray, List.set_cons_zero, List.set_cons_succ]
            refine wpAnyT_one (i := 5) rfl (by kernel_rfl) (by rfl) (fun K hK => ?_)
            go_simp
            refine hK _ _ (fun _ _ => hSo2 _ (hBel.alloc hBel.size _)) ?_
            have s9 : y8.heap.size < (y8.alloc (.cells #[.slice none 0 0, .slice none 0 0, .slice none 0 0] 42)).heap.size := by simp
            have q4 := (Below.heap_alloc y8 (.cells #[.slice none 0 0, .slice none 0 0, .slice none 0 0] 42) _ (by omega)).trans q4
            have o1 := o1.step (w' := y8.alloc (.cells #[.slice none 0 0, .slice none 0 0, .slice none 0 0] 42)) fun b _ hl => Below.heap_alloc _ _ b hl
            have o2 := o2.step (w' := y8.alloc (.cells #[.slice none 0 0, .slice none 0 0, .slice none 0 0] 42)) fun b _ hl => Below.heap_alloc _ _ b hl
            have q5 := World.alloc_heap_new y8 (.cells #[.slice none 0 0, .slice none 0 0, .slice none 0 0] 42)
            have hBel' := hBel.alloc hBel.size (.cells #[.slice none 0 0, .slice none 0 0, .slice none 0 0] 42)
            clear hBel
            have hBel := hBel'
            clear hBel'
            clear hK K
            try simp only [Act.put, List.setIfInBounds_toArray, List.set_cons_zero, List.set_cons_succ]
            generalize hy9 : y8.alloc (.cells #[.slice none 0 0, .slice none 0 0, .slice none 0 0] 42) = y9 at *
            clear hy9
            obtain ⟨c0, c1, c2⟩ := cells3 q4
            have cf : ∀ j, y9.frozen? ⟨y1.heap.size, j, none⟩ = false := fun j => frozen_of_row _ _ j _ _ q4
            refine wpAnyT_one (i := 6) rfl (by kernel_rfl) (by rfl) (fun K hK => ?_)
            go_simp
            refine hK _ _ (fun _ _ => hSo2 _ (((hBel.setCell (p := ⟨y1.heap.size, 0, none⟩) (by show W3.heap.size ≤ y1.heap.size; omega) _).setCell (p := ⟨y1.heap.size, 1, none⟩) (by show W3.heap.size ≤ y1.heap.size; omega) _).setCell (p := ⟨y1.heap.size, 2, none⟩) (by show W3.heap.size ≤ y1.heap.size; omega) _)) ?_
            clear hK K
            try simp only [Act.put, List.setIfInBounds_toArray, List.set_cons_zero, List.set_cons_succ]
            have hne : y1.heap.size ≠ y8.heap.size := by omega
            have r5 := (Below.heap_setCell ((y9.setCell ⟨y1.heap.size, 0, none⟩ (.slice X11 a.cls.length x11)).setCell ⟨y1.heap.size, 1, none⟩ (.slice X12 a.next.length x12)) ⟨y1.heap.size, 2, none⟩ (.slice X13 a.marks.length x13) _ (fun e => hne e.symm)).trans ((Below.heap_setCell (y9.setCell ⟨y1.heap.size, 0, none⟩ (.slice X11 a.cls.length x11)) ⟨y1.heap.size, 1, none⟩ (.slice X12 a.next.length x12) _ (fun e => hne e.symm)).trans ((Below.heap_setCell y9 ⟨y1.heap.size, 0, none⟩ (.slice X11 a.cls.length x11) _ (fun e => hne e.symm)).trans q5))
            obtain ⟨d0, d1, d2⟩ := cells3 r5
            have df := fun j => frozen_of_row _ _ j _ _ r5
            clear c0 c1 c2 cf
            refine wpAnyT_one (i := 7) rfl (by kernel_rfl) (by rfl) (fun K hK => ?_)
            generalize hyz : ((y9.setCell ⟨y1.heap.size, 0, none⟩ (.slice X11 a.cls.length x11)).setCell ⟨y1.heap.size, 1, none⟩ (.slice X12 a.next.length x12)).setCell ⟨y1.heap.size, 2, none⟩ (.slice X13 a.marks.length x13) = yz at *
            have HYZ := Lib.hid hyz
            clear hyz
            go_simp
            refine hK _ _ (no_need (by kernel_rfl)) ?_
            clear hK K
            try simp only [Act.put, List.setIfInBounds_toArray, List.set_cons_zero, List.set_cons_succ]
            refine wpAnyT_done (by kernel_rfl) ?_ _
            refine NoPanic.normal ?_
            clear d0 d1 d2 df
            go_wp2_with fail
            go_meet
            exact ⟨_, _, ⟨X11, x11, X12, x12, X13, x13⟩, ⟨X21, x21, X22, x22, X23, x23⟩, rfl, rfl, two_put q4 q5 hne (o1.lower (by omega)) (o2.lower (by omega)) (fun k hk => by omega) (fun k hk => by omega) hBel (by omega) (by omega) _ (by rw [HYZ.out]), by omega, by omega⟩
          · go_simp
            refine hK _ _ (fun _ _ => hSo2 _ (hBel.alloc hBel.size _)) ?_
            have s10 : y7.heap.size < (y7.alloc (.cells #[.slice none 0 0, .slice none 0 0, .slice none 0 0] 42)).heap.size := by simp
            have q4 := (Below.heap_alloc y7 (.cells #[.slice none 0 0, .slice none 0 0, .slice none 0 0] 42) _ (by omega)).trans q4
            have o1 := o1.step (w' := y7.alloc (.cells #[.slice none 0 0, .slice none 0 0, .slice none 0 0] 42)) fun b _ hl => Below.heap_alloc _ _ b hl
            have q5 := World.alloc_heap_new y7 (.cells #[.slice none 0 0, .slice none 0 0, .slice none 0 0] 42)
            have hBel' := hBel.alloc hBel.size (.cells #[.slice none 0 0, .slice none 0 0, .slice none 0 0] 42)
            clear hBel
            have hBel := hBel'
            clear hBel'
            clear hK K
            try simp only [Act.put, List.setIfInBounds_toArray, List.set_cons_zero, List.set_cons_succ]
            generalize hy10 : y7.alloc (.cells #[.slice none 0 0, .slice none 0 0, .slice none 0 0] 42) = y10 at *
            clear hy10
            refine wpAnyT_one (i := 3) rfl (by kernel_rfl) (by rfl) (fun K hK => ?_)
            go_simp
            refine (hc2 y10 hBel).mono ?_
            rintro e y11 ⟨h2, rfl, hO, hBx⟩
            obtain ⟨X21, x21, X22, x22, X23, x23⟩ := h2
            have hBel' := hBel.trans (hBx.mono hBel.size)
            try dsimp only [dfaV, dfaC]
            refine hK _ _ (fun _ _ => hSo2 _ hBel') ?_
            have s11 := hBx.size
            have q4 := (hBx.block _ (by omega)).trans q4
            have q5 := (hBx.block _ (by omega)).trans q5
            have o1 := o1.below hBx
            have o2 := (DfaW.g hO).bound
            clear hO hBel hBx
            have hBel := hBel'
            clear hBel'
            clear hK K
            try simp only [Act.put, List.setIfInBounds_toArray, List.set_cons_zero, List.set_cons_succ]
            obtain ⟨c0, c1, c2⟩ := cells3 q4
            have cf : ∀ j, y11.frozen? ⟨y1.heap.size, j, none⟩ = false := fun j => frozen_of_row _ _ j _ _ q4
            refine wpAnyT_one (i := 6) rfl (by kernel_rfl) (by rfl) (fun K hK => ?_)
            go_simp
            refine hK _ _ (fun _ _ => hSo2 _ (((hBel.setCell (p := ⟨y1.heap.size, 0, none⟩) (by show W3.heap.size ≤ y1.heap.size; omega) _).setCell (p := ⟨y1.heap.size, 1, none⟩) (by show W3.heap.size ≤ y1.heap.size; omega) _).setCell (p := ⟨y1.heap.size, 2, none⟩) (by show W3.heap.size ≤ y1.heap.size; omega) _)) ?_
            clear hK K
            try simp only [Act.put, List.setIfInBounds_toArray, List.set_cons_zero, List.set_cons_succ]
            have hne : y1.heap.size ≠ y7.heap.size := by omega
            have r5 := (Below.heap_setCell ((y11.setCell ⟨y1.heap.size, 0, none⟩ (.slice X11 a.cls.length x11)).setCell ⟨y1.heap.size, 1, none⟩ (.slice X12 a.next.length x12)) ⟨y1.heap.size, 2, none⟩ (.slice X13 a.marks.length x13) _ (fun e => hne e.symm)).trans ((Below.heap_setCell (y11.setCell ⟨y1.heap.size, 0, none⟩ (.slice X11 a.cls.length x11)) ⟨y1.heap.size, 1, none⟩ (.slice X12 a.next.length x12) _ (fun e => hne e.symm)).trans ((Below.heap_setCell y11 ⟨y1.heap.size, 0, none⟩ (.slice X11 a.cls.length x11) _ (fun e => hne e.symm)).trans q5))
            obtain ⟨d0, d1, d2⟩ := cells3 r5
            have df := fun j => frozen_of_row _ _ j _ _ r5
            clear c0 c1 c2 cf
            refine wpAnyT_one (i := 7) rfl (by kernel_rfl) (by rfl) (fun K hK => ?_)
            generalize hyz : ((y11.setCell ⟨y1.heap.size, 0, none⟩ (.slice X11 a.cls.length x11)).setCell ⟨y1.heap.size, 1, none⟩ (.slice X12 a.next.length x12)).setCell ⟨y1.heap.size, 2, none⟩ (.slice X13 a.marks.length x13) = yz at *
            have HYZ := Lib.hid hyz
            clear hyz
            go_simp
            refine hK _ _ (no_need (by kernel_rfl)) ?_
            clear hK K
            try simp only [Act.put, List.setIfInBounds_toArray, List.set_cons_zero, List.set_cons_succ]
            refine wpAnyT_done (by kernel_rfl) ?_ _
            refine NoPanic.normal ?_
            clear d0 d1 d2 df
            go_wp2_with fail
            go_meet
            exact ⟨_, _, ⟨X11, x11, X12, x12, X13, x13⟩, ⟨X21, x21, X22, x22, X23, x23⟩, rfl, rfl, two_put q4 q5 hne (o1.lower (by omega)) (o2.lower (by omega)) (fun k hk => by omega) (fun k hk => by omega) hBel (by omega) (by omega) _ (by rw [HYZ.out]), by omega, by omega⟩
        · go_simp
          refine hK _ _ (fun _ _ => hSo2 _ (hBel.alloc hBel.size _)) ?_
          have s12 : y1.heap.size < (y1.alloc (.cells #[.slice none 0 0, .slice none 0 0, .slice none 0 0] 42)).heap.size := by simp
          have o1 := o1.step (w' := y1.alloc (.cells #[.slice none 0 0, .slice none 0 0, .slice none 0 0] 42)) fun b _ hl => Below.heap_alloc _ _ b hl
          have q5 := World.alloc_heap_new y1 (.cells #[.slice none 0 0, .slice none 0 0, .slice none 0 0] 42)
          have hBel' := hBel.alloc hBel.size (.cells #[.slice none 0 0, .slice none 0 0, .slice none 0 0] 42)
          clear hBel
          have hBel := hBel'
          clear hBel'
          clear hK K
          try simp only [Act.put, List.setIfInBounds_toArray, List.set_cons_zero, List.set_cons_succ]
          generalize hy12 : y1.alloc (.cells #[.slice none 0 0, .slice none 0 0, .slice none 0 0] 42) = y12 at *
          clear hy12
          refine wpAnyT_two (i := 3) (j := 4) rfl rfl (by kernel_rfl) (by rfl) (by rfl) (fun K hK => ?_) (fun K hK => ?_)
          · go_simp
            refine (hc2 y12 hBel).mono ?_
            rintro e y13 ⟨h2, rfl, hO, hBx⟩
            obtain ⟨X21, x21, X22, x22, X23, x23⟩ := h2
            have hBel' := hBel.trans (hBx.mono hBel.size)
            try dsimp only [dfaV, dfaC]
            refine hK _ _ (fun _ _ => hSo2 _ hBel') ?_
            have s13 := hBx.size
            have q5 := (hBx.block _ (by omega)).trans q5
            have o1 := o1.below hBx
            have o2 := (DfaW.g hO).bound
            clear hO hBel hBx
            have hBel := hBel'
            clear hBel'
            clear hK K
            try simp only [Act.put, List.setIfInBounds_toArray, List.set_cons_zero, List.set_cons_succ]
            refine wpAnyT_one (i := 4) rfl (by kernel_rfl) (by rfl) (fun K hK => ?_)
            go_simp
            refine hK _ _ (fun _ _ => hSo2 _ (hBel.alloc hBel.size _)) ?_
            have s14 : y13.heap.size < (y13.alloc (.cells #[.slice none 0 0, .slice none 0 0, .slice none 0 0] 42)).heap.size := by simp
            have q5 := (Below.heap_alloc y13 (.cells #[.slice none 0 0, .slice none 0 0, .slice none 0 0] 42) _ (by omega)).trans q5
            have o1 := o1.step (w' := y13.alloc (.cells #[.slice none 0 0, .slice none 0 0, .slice none 0 0] 42)) fun b _ hl => Below.heap_alloc _ _ b hl
            have o2 := o2.step (w' := y13.alloc (.cells #[.slice none 0 0, .slice none 0 0, .slice none 0 0] 42)) fun b _ hl => Below.heap_alloc _ _ b hl
            have q4 := World.alloc_heap_new y13 (.cells #[.slice none 0 0, .slice none 0 0, .slice none 0 0] 42)
            have hBel' := hBel.alloc hBel.size (.cells #[.slice none 0 0, .slice none 0 0, .slice none 0 0] 42)
            clear hBel
            have hBel := hBel'
            clear hBel'
            clear hK K
            try simp only [Act.put, List.setIfInBounds_toArray, List.set_cons_zero, List.set_cons_succ]
            generalize hy14 : y13.alloc (.cells #[.slice none 0 0, .slice none 0 0, .slice none 0 0] 42) = y14 at *
            clear hy14
            obtain ⟨c0, c1, c2⟩ := cells3 q4
            have cf : ∀ j, y14.frozen? ⟨y13.heap.size, j, none⟩ = false := fun j => frozen_of_row _ _ j _ _ q4
            refine wpAnyT_one (i := 6) rfl (by kernel_rfl) (by rfl) (fun K hK => ?_)
            go_simp
            refine hK _ _ (fun _ _ => hSo2 _ (((hBel.setCell (p := ⟨y13.heap.size, 0, none⟩) (by show W3.heap.size ≤ y13.heap.size; omega) _).setCell (p := ⟨y13.heap.size, 1, none⟩) (by show W3.heap.size ≤ y13.heap.size; omega) _).setCell (p := ⟨y13.heap.size, 2, none⟩) (by show W3.heap.size ≤ y13.heap.size; omega) _)) ?_
            clear hK K
            try simp only [Act.put, List.setIfInBounds_toArray, List.set_cons_zero, List.set_cons_succ]
            have hne : y13.heap.size ≠ y1.heap.size := by omega
            have r5 := (Below.heap_setCell ((y14.setCell ⟨y13.heap.size, 0, none⟩ (.slice X11 a.cls.length x11)).setCell ⟨y13.heap.size, 1, none⟩ (.slice X12 a.next.length x12)) ⟨y13.heap.size, 2, none⟩ (.slice X13 a.marks.length x13) _ (fun e => hne e.symm)).trans ((Below.heap_setCell (y14.setCell ⟨y13.heap.size, 0, none⟩ (.slice X11 a.cls.length x11)) ⟨y13.heap.size, 1, none⟩ (.slice X12 a.next.length x12) _ (fun e => hne e.symm)).trans ((Below.heap_setCell y14 ⟨y13.heap.size, 0, none⟩ (.slice X11 a.cls.length x11) _ (fun e => hne e.symm)).trans q5))
            obtain ⟨d0, d1, d2⟩ := cells3 r5
            have df := fun j => frozen_of_row _ _ j _ _ r5
            clear c0 c1 c2 cf
            refine wpAnyT_one (i := 7) rfl (by kernel_rfl) (by rfl) (fun K hK => ?_)
            generalize hyz : ((y14.setCell ⟨y13.heap.size, 0, none⟩ (.slice X11 a.cls.length x11)).setCell ⟨y13.heap.size, 1, none⟩ (.slice X12 a.next.length x12)).setCell ⟨y13.heap.size, 2, none⟩ (.slice X13 a.marks.length x13) = yz at *
            have HYZ := Lib.hid hyz
            clear hyz
            go_simp
            refine hK _ _ (no_need (by kernel_rfl)) ?_
            clear hK K
            try simp only [Act.put, List.setIfInBounds_toArray, List.set_cons_zero, List.set_cons_succ]
            refine wpAnyT_done (by kernel_rfl) ?_ _
            refine NoPanic.normal ?_
            clear d0 d1 d2 df
            go_wp2_with fail
            go_meet
            exact ⟨_, _, ⟨X11, x11, X12, x12, X13, x13⟩, ⟨X21, x21, X22, x22, X23, x23⟩, rfl, rfl, two_put q4 q5 hne (o1.lower (by omega)) (o2.lower (by omega)) (fun k hk => by omega) (fun k hk => by omega) hBel (by omega) (by omega) _ (by rw [HYZ.out]), by omega, by omega⟩
          · go_simp
            refine hK _ _ (fun _ _ => hSo2 _ (hBel.alloc hBel.size _)) ?_
            have s15 : y12.heap.size < (y12.alloc (.cells #[.slice none 0 0, .slice none 0 0, .slice none 0 0] 42)).heap.size := by simp
            have q5 := (Below.heap_alloc y12 (.cells #[.slice none 0 0, .slice none 0 0, .slice none 0 0] 42) _ (by omega)).trans q5
            have o1 := o1.step (w' := y12.alloc (.cells #[.slice none 0 0, .slice none 0 0, .slice none 0 0] 42)) fun b _ hl => Below.heap_alloc _ _ b hl
            have q4 := World.alloc_heap_new y12 (.cells #[.slice none 0 0, .slice none 0 0, .slice none 0 0] 42)
            have hBel' := hBel.alloc hBel.size (.cells #[.slice none 0 0, .slice none 0 0, .slice none 0 0] 42)
            clear hBel
            have hBel := hBel'
            clear hBel'
            clear hK K
            try simp only [Act.put, List.setIfInBounds_toArray, List.set_cons_zero, List.set_cons_succ]
            generalize hy15 : y12.alloc (.cells #[.slice none 0 0, .slice none 0 0, .slice none 0 0] 42) = y15 at *
            clear hy15
            refine wpAnyT_one (i := 3) rfl (by kernel_rfl) (by rfl) (fun K hK => ?_)
            go_simp
            refine (hc2 y15 hBel).mono ?_
            rintro e y16 ⟨h2, rfl, hO, hBx⟩
            obtain ⟨X21, x21, X22, x22, X23, x23⟩ := h2
            have hBel' := hBel.trans (hBx.mono hBel.size)
            try dsimp only [dfaV, dfaC]
            refine hK _ _ (fun _ _ => hSo2 _ hBel') ?_
            have s16 := hBx.size
            have q5 := (hBx.block _ (by omega)).trans q5
            have q4 := (hBx.block _ (by omega)).trans q4
            have o1 := o1.below hBx
            have o2 := (DfaW.g hO).bound
            clear hO hBel hBx
            have hBel := hBel'
            clear hBel'
            clear hK K
            try simp only [Act.put, List.setIfInBounds_toArray, List.set_cons_zero, List.set_cons_succ]
            obtain ⟨c0, c1, c2⟩ := cells3 q4
            have cf : ∀ j, y16.frozen? ⟨y12.heap.size, j, none⟩ = false := fun j => frozen_of_row _ _ j _ _ q4
            refine wpAnyT_one (i := 6) rfl (by kernel_rfl) (by rfl) (fun K hK => ?_)
            go_simp
            refine hK _ _ (fun _ _ => hSo2 _ (((hBel.setCell (p := ⟨y12.heap.size, 0, none⟩) (by show W3.heap.size ≤ y12.heap.size; omega) _).setCell (p := ⟨y12.heap.size, 1, none⟩) (by show W3.heap.size ≤ y12.heap.size; omega) _).setCell (p := ⟨y12.heap.size, 2, none⟩) (by show W3.heap.size ≤ y12.heap.size; omega) _)) ?_
            clear hK K
            try simp only [Act.put, List.setIfInBounds_toArray, List.set_cons_zero, List.set_cons_succ]
            have hne : y12.heap.size ≠ y1.heap.size := by omega
            have r5 := (Below.heap_setCell ((y16.setCell ⟨y12.heap.size, 0, none⟩ (.slice X11 a.cls.length x11)).setCell ⟨y12.heap.size, 1, none⟩ (.slice X12 a.next.length x12)) ⟨y12.heap.size, 2, none⟩ (.slice X13 a.marks.length x13) _ (fun e => hne e.symm)).trans ((Below.heap_setCell (y16.setCell ⟨y12.heap.size, 0, none⟩ (.slice X11 a.cls.length x11)) ⟨y12.heap.size, 1, none⟩ (.slice X12 a.next.length x12) _ (fun e => hne e.symm)).trans ((Below.heap_setCell y16 ⟨y12.heap.size, 0, none⟩ (.slice X11 a.cls.length x11) _ (fun e => hne e.symm)).trans q5))
            obtain ⟨d0, d1, d2⟩ := cells3 r5
            have df := fun j => frozen_of_row _ _ j _ _ r5
            clear c0 c1 c2 cf
            refine wpAnyT_one (i := 7) rfl (by kernel_rfl) (by rfl) (fun K hK => ?_)
            generalize hyz : ((y16.setCell ⟨y12.heap.size, 0, none⟩ (.slice X11 a.cls.length x11)).setCell ⟨y12.heap.size, 1, none⟩ (.slice X12 a.next.length x12)).setCell ⟨y12.heap.size, 2, none⟩ (.slice X13 a.marks.length x13) = yz at *
            have HYZ := Lib.hid hyz
            clear hyz
            go_simp
            refine hK _ _ (no_need (by kernel_rfl)) ?_
            clear hK K
            try simp only [Act.put, List.setIfInBounds_toArray, List.set_cons_zero, List.set_cons_succ]
            refine wpAnyT_done (by kernel_rfl) ?_ _
            refine NoPanic.normal ?_
            clear d0 d1 d2 df
            go_wp2_with fail
            go_meet
            exact ⟨_, _, ⟨X11, x11, X12, x12, X13, x13⟩, ⟨X21, x21, X22, x22, X23, x23⟩, rfl, rfl, two_put q4 q5 hne (o1.lower (by omega)) (o2.lower (by omega)) (fun k hk => by omega) (fun k hk => by omega) hBel (by omega) (by omega) _ (by rw [HYZ.out]), by omega, by omega⟩
      · go_simp
        refine hK _ _ (fun _ _ => hSo2 _ (hBel.alloc hBel.size _)) ?_
        have s17 : y0.heap.size < (y0.alloc (.cells #[.slice none 0 0, .slice none 0 0, .slice none 0 0] 42)).heap.size := by simp
        have q4 := World.alloc_heap_new y0 (.cells #[.slice none 0 0, .slice none 0 0, .slice none 0 0] 42)
        have hBel' := hBel.alloc hBel.size (.cells #[.slice none 0 0, .slice none 0 0, .slice none 0 0] 42)
        clear hBel
        have hBel := hBel'
        clear hBel'
        clear hK K
        try simp only [Act.put, List.setIfInBounds_toArray, List.set_cons_zero, List.set_cons_succ]
        generalize hy17 : y0.alloc (.cells #[.slice none 0 0, .slice none 0 0, .slice none 0 0] 42) = y17 at *
        clear hy17
        refine wpAnyT_two (i := 1) (j := 5) rfl rfl (by kernel_rfl) (by rfl) (by rfl) (fun K hK => ?_) (fun K hK => ?_)
        · go_simp
          refine (hc1 y17 hBel).mono ?_
          rintro e y18 ⟨h1, rfl, hO, hBx⟩
          obtain ⟨X11, x11, X12, x12, X13, x13⟩ := h1
          have hBel' := hBel.trans (hBx.mono hBel.size)
          try dsimp only [dfaV, dfaC]
          refine hK _ _ (fun _ _ => hSo2 _ hBel') ?_
          have s18 := hBx.size
          have q4 := (hBx.block _ (by omega)).trans q4
          have o1 := (DfaW.g hO).bound
          clear hO hBel hBx
          have hBel := hBel'
          clear hBel'
          clear hK K
          try simp only [Act.put, List.setIfInBounds_toArray, List.set_cons_zero, List.set_cons_succ]
          refine wpAnyT_two (i := 3) (j := 5) rfl rfl (by kernel_rfl) (by rfl) (by rfl) (fun K hK => ?_) (fun K hK => ?_)
          · go_simp
            refine (hc2 y18 hBel).mono ?_
            rintro e y19 ⟨h2, rfl, hO, hBx⟩
            obtain ⟨X21, x21, X22, x22, X23, x23⟩ := h2
            have hBel' := hBel.trans (hBx.mono hBel.size)
            try dsimp only [dfaV, dfaC]
            refine hK _ _ (fun _ _ => hSo2 _ hBel') ?_
            have s19 := hBx.size
            have q4 := (hBx.block _ (by omega)).trans q4
            have o1 := o1.below hBx
            have o2 := (DfaW.g hO).bound
            clear hO hBel hBx
            have hBel := hBel'
            clear hBel'
            clear hK K
            try simp only [Act.put, List.setIfInBounds_toArray, List.set_cons_zero, List.set_cons_succ]
            refine wpAnyT_one (i := 5) rfl (by kernel_rfl) (by rfl) (fun K hK => ?_)
            go_simp
            refine hK _ _ (fun _ _ => hSo2 _ (hBel.alloc hBel.size _)) ?_
            have s20 : y19.heap.size < (y19.alloc (.cells #[.slice none 0 0, .slice none 0 0, .slice none 0 0] 42)).heap.size := by simp
            have q4 := (Below.heap_alloc y19 (.cells #[.slice none 0 0, .slice none 0 0, .slice none 0 0] 42) _ (by omega)).trans q4
            have o1 := o1.step (w' := y19.alloc (.cells #[.slice none 0 0, .slice none 0 0, .slice none 0 0] 42)) fun b _ hl => Below.heap_alloc _ _ b hl
            have o2 := o2.step (w' := y19.alloc (.cells #[.slice none 0 0, .slice none 0 0, .slice none 0 0] 42)) fun b _ hl => Below.heap_alloc _ _ b hl
            have q5 := World.alloc_heap_new y19 (.cells #[.slice none 0 0, .slice none 0 0, .slice none 0 0] 42)
            have hBel' := hBel.alloc hBel.size (.cells #[.slice none 0 0, .slice none 0 0, .slice none 0 0] 42)
            clear hBel
            have hBel := hBel'
            clear hBel'
            clear hK K
            try simp only [Act.put, List.setIfInBounds_toArray, List.set_cons_zero, List.set_cons_succ]
            generalize hy20 : y19.alloc (.cells #[.slice none 0 0, .slice none 0 0, .slice none 0 0] 42) = y20 at *
            clear hy20
            obtain ⟨c0, c1, c2⟩ := cells3 q4
            have cf : ∀ j, y20.frozen? ⟨y0.heap.size, j, none⟩ = false := fun j => frozen_of_row _ _ j _ _ q4
            refine wpAnyT_one (i := 6) rfl (by kernel_rfl) (by rfl) (fun K hK => ?_)
            go_simp
            refine hK _ _ (fun _ _ => hSo2 _ (((hBel.setCell (p := ⟨y0.heap.size, 0, none⟩) (by show W3.heap.size ≤ y0.heap.size; omega) _).setCell (p := ⟨y0.heap.size, 1, none⟩) (by show W3.heap.size ≤ y0.heap.size; omega) _).setCell (p := ⟨y0.heap.size, 2, none⟩) (by show W3.heap.size ≤ y0.heap.size; omega) _)) ?_
            clear hK K
            try simp only [Act.put, List.setIfInBounds_toArray, List.set_cons_zero, List.set_cons_succ]
            have hne : y0.heap.size ≠ y19.heap.size := by omega
            have r5 := (Below.heap_setCell ((y20.setCell ⟨y0.heap.size, 0, none⟩ (.slice X11 a.cls.length x11)).setCell ⟨y0.heap.size, 1, none⟩ (.slice X12 a.next.length x12)) ⟨y0.heap.size, 2, none⟩ (.slice X13 a.marks.length x13) _ (fun e => hne e.symm)).trans ((Below.heap_setCell (y20.setCell ⟨y0.heap.size, 0, none⟩ (.slice X11 a.cls.length x11)) ⟨y0.heap.size, 1, none⟩ (.slice X12 a.next.length x12) _ (fun e => hne e.symm)).trans ((Below.heap_setCell y20 ⟨y0.heap.size, 0, none⟩ (.slice X11 a.cls.length x11) _ (fun e => hne e.symm)).trans q5))
            obtain ⟨d0, d1, d2⟩ := cells3 r5
            have df := fun j => frozen_of_row _ _ j _ _ r5
            clear c0 c1 c2 cf
            refine wpAnyT_one (i := 7) rfl (by kernel_rfl) (by rfl) (fun K hK => ?_)
            generalize hyz : ((y20.setCell ⟨y0.heap.size, 0, none⟩ (.slice X11 a.cls.length x11)).setCell ⟨y0.heap.size, 1, none⟩ (.slice X12 a.next.length x12)).setCell ⟨y0.heap.size, 2, none⟩ (.slice X13 a.marks.length x13) = yz at *
            have HYZ := Lib.hid hyz
            clear hyz
            go_simp
            refine hK _ _ (no_need (by kernel_rfl)) ?_
            clear hK K
            try simp only [Act.put, List.setIfInBounds_toArray, List.set_cons_zero, List.set_cons_succ]
            refine wpAnyT_done (by kernel_rfl) ?_ _
            refine NoPanic.normal ?_
            clear d0 d1 d2 df
            go_wp2_with fail
            go_meet
            exact ⟨_, _, ⟨X11, x11, X12, x12, X13, x13⟩, ⟨X21, x21, X22, x22, X23, x23⟩, rfl, rfl, two_put q4 q5 hne (o1.lower (by omega)) (o2.lower (by omega)) (fun k hk => by omega) (fun k hk => by omega) hBel (by omega) (by omega) _ (by rw [HYZ.out]), by omega, by omega⟩
          · go_simp
            refine hK _ _ (fun _ _ => hSo2 _ (hBel.alloc hBel.size _)) ?_
            have s21 : y18.heap.size < (y18.alloc (.cells #[.slice none 0 0, .slice none 0 0, .slice none 0 0] 42)).heap.size := by simp
            have q4 := (Below.heap_alloc y18 (.cells #[.slice none 0 0, .slice none 0 0, .slice none 0 0] 42) _ (by omega)).trans q4
            have o1 := o1.step (w' := y18.alloc (.cells #[.slice none 0 0, .slice none 0 0, .slice none 0 0] 42)) fun b _ hl => Below.heap_alloc _ _ b hl
            have q5 := World.alloc_heap_new y18 (.cells #[.slice none 0 0, .slice none 0 0, .slice none 0 0] 42)
            have hBel' := hBel.alloc hBel.size (.cells #[.slice none 0 0, .slice none 0 0, .slice none 0 0] 42)
            clear hBel
            have hBel := hBel'
            clear hBel'
            clear hK K
            try simp only [Act.put, List.setIfInBounds_toArray, List.set_cons_zero, List.set_cons_succ]
            generalize hy21 : y18.alloc (.cells #[.slice none 0 0, .slice none 0 0, .slice none 0 0] 42) = y21 at *
            clear hy21
            refine wpAnyT_one (i := 3) rfl (by kernel_rfl) (by rfl) (fun K hK => ?_)
            go_simp
            refine (hc2 y21 hBel).mono ?_
            rintro e y22 ⟨h2, rfl, hO, hBx⟩
            obtain ⟨X21, x21, X22, x22, X23, x23⟩ := h2
            have hBel' := hBel.trans (hBx.mono hBel.size)
            try dsimp only [dfaV, dfaC]
            refine hK _ _ (fun _ _ => hSo2 _ hBel') ?_
            have s22 := hBx.size
            have q4 := (hBx.block _ (by omega)).trans q4
            have q5 := (hBx.block _ (by omega)).trans q5
            have o1 := o1.below hBx
            have o2 := (DfaW.g hO).bound
            clear hO hBel hBx
            have hBel := hBel'
            clear hBel'
            clear hK K
            try simp only [Act.put, List.setIfInBounds_toArray, List.set_cons_zero, List.set_cons_succ]
            obtain ⟨c0, c1, c2⟩ := cells3 q4
            have cf : ∀ j, y22.frozen? ⟨y0.heap.size, j, none⟩ = false := fun j => frozen_of_row _ _ j _ _ q4
            refine wpAnyT_one (i := 6) rfl (by kernel_rfl) (by rfl) (fun K hK => ?_)
            go_simp
            refine hK _ _ (fun _ _ => hSo2 _ (((hBel.setCell (p := ⟨y0.heap.size, 0, none⟩) (by show W3.heap.size ≤ y0.heap.size; omega) _).setCell (p := ⟨y0.heap.size, 1, none⟩) (by show W3.heap.size ≤ y0.heap.size; omega) _).setCell (p := ⟨y0.heap.size, 2, none⟩) (by show W3.heap.size ≤ y0.heap.size; omega) _)) ?_
            clear hK K
            try simp only [Act.put, List.setIfInBounds_toArray, List.set_cons_zero, List.set_cons_succ]
            have hne : y0.heap.size ≠ y18.heap.size := by omega
            have r5 := (Below.heap_setCell ((y22.setCell ⟨y0.heap.size, 0, none⟩ (.slice X11 a.cls.length x11)).setCell ⟨y0.heap.size, 1, none⟩ (.slice X12 a.next.length x12)) ⟨y0.heap.size, 2, none⟩ (.slice X13 a.marks.length x13) _ (fun e => hne e.symm)).trans ((Below.heap_setCell (y22.setCell ⟨y0.heap.size, 0, none⟩ (.slice X11 a.cls.length x11)) ⟨y0.heap.size, 1, none⟩ (.slice X12 a.next.length x12) _ (fun e => hne e.symm)).trans ((Below.heap_setCell y22 ⟨y0.heap.size, 0, none⟩ (.slice X11 a.cls.length x11) _ (fun e => hne e.symm)).trans q5))
            obtain ⟨d0, d1, d2⟩ := cells3 r5
            have df := fun j => frozen_of_row _ _ j _ _ r5
            clear c0 c1 c2 cf
            refine wpAnyT_one (i := 7) rfl (by kernel_rfl) (by rfl) (fun K hK => ?_)
            generalize hyz : ((y22.setCell ⟨y0.heap.size, 0, none⟩ (.slice X11 a.cls.length x11)).setCell ⟨y0.heap.size, 1, none⟩ (.slice X12 a.next.length x12)).setCell ⟨y0.heap.size, 2, none⟩ (.slice X13 a.marks.length x13) = yz at *
            have HYZ := Lib.hid hyz
            clear hyz
            go_simp
            refine hK _ _ (no_need (by kernel_rfl)) ?_
            clear hK K
            try simp only [Act.put, List.setIfInBounds_toArray, List.set_cons_zero, List.set_cons_succ]
            refine wpAnyT_done (by kernel_rfl) ?_ _
            refine NoPanic.normal ?_
            clear d0 d1 d2 df
            go_wp2_with fail
            go_meet
            exact ⟨_, _, ⟨X11, x11, X12, x12, X13, x13⟩, ⟨X21, x21, X22, x22, X23, x23⟩, rfl, rfl, two_put q4 q5 hne (o1.lower (by omega)) (o2.lower (by omega)) (fun k hk => by omega) (fun k hk => by omega) hBel (by omega) (by omega) _ (by rw [HYZ.out]), by omega, by omega⟩
        · go_simp
          refine hK _ _ (fun _ _ => hSo2 _ (hBel.alloc hBel.size _)) ?_
          have s23 : y17.heap.size < (y17.alloc (.cells #[.slice none 0 0, .slice none 0 0, .slice none 0 0] 42)).heap.size := by simp
          have q4 := (Below.heap_alloc y17 (.cells #[.slice none 0 0, .slice none 0 0, .slice none 0 0] 42) _ (by omega)).trans q4
          have q5 := World.alloc_heap_new y17 (.cells #[.slice none 0 0, .slice none 0 0, .slice none 0 0] 42)
          have hBel' := hBel.alloc hBel.size (.cells #[.slice none 0 0, .slice none 0 0, .slice none 0 0] 42)
          clear hBel
          have hBel := hBel'
          clear hBel'
          clear hK K
          try simp only [Act.put, List.setIfInBounds_toArray, List.set_cons_zero, List.set_cons_succ]
          generalize hy23 : y17.alloc (.cells #[.slice none 0 0, .slice none 0 0, .slice none 0 0] 42) = y23 at *
          clear hy23
          refine wpAnyT_one (i := 1) rfl (by kernel_rfl) (by rfl) (fun K hK => ?_)
          go_simp
          refine (hc1 y23 hBel).mono ?_
          rintro e y24 ⟨h1, rfl, hO, hBx⟩
          obtain ⟨X11, x11, X12, x12, X13, x13⟩ := h1
          have hBel' := hBel.trans (hBx.mono hBel.size)
          try dsimp only [dfaV, dfaC]
          refine hK _ _ (fun _ _ => hSo2 _ hBel') ?_
          have s24 := hBx.size
          have q4 := (hBx.block _ (by omega)).trans q4
          have q5 := (hBx.block _ (by omega)).trans q5
          have o1 := (DfaW.g hO).bound
          clear hO hBel hBx
          have hBel := hBel'
          clear hBel'
          clear hK K
          try simp only [Act.put, List.setIfInBounds_toArray, List.set_cons_zero, List.set_cons_succ]
          refine wpAnyT_one (i := 3) rfl (by kernel_rfl) (by rfl) (fun K hK => ?_)
          go_simp
          refine (hc2 y24 hBel).mono ?_
          rintro e y25 ⟨h2, rfl, hO, hBx⟩
          obtain ⟨X21, x21, X22, x22, X23, x23⟩ := h2
          have hBel' := hBel.trans (hBx.mono hBel.size)
          try dsimp only [dfaV, dfaC]
          refine hK _ _ (fun _ _ => hSo2 _ hBel') ?_
          have s25 := hBx.size
          have q4 := (hBx.block _ (by omega)).trans q4
          have q5 := (hBx.block _ (by omega)).trans q5
          have o1 := o1.below hBx
          have o2 := (DfaW.g hO).bound
          clear hO hBel hBx
          have hBel := hBel'
          clear hBel'
          clear hK K
          try simp only [Act.put, List.setIfInBounds_toArray, List.set_cons_zero, List.set_cons_succ]
          obtain ⟨c0, c1, c2⟩ := cells3 q4
          have cf : ∀ j, y25.frozen? ⟨y0.heap.size, j, none⟩ = false := fun j => frozen_of_row _ _ j _ _ q4
          refine wpAnyT_one (i := 6) rfl (by kernel_rfl) (by rfl) (fun K hK => ?_)
          go_simp
          refine hK _ _ (fun _ _ => hSo2 _ (((hBel.setCell (p := ⟨y0.heap.size, 0, none⟩) (by show W3.heap.size ≤ y0.heap.size; omega) _).setCell (p := ⟨y0.heap.size, 1, none⟩) (by show W3.heap.size ≤ y0.heap.size; omega) _).setCell (p := ⟨y0.heap.size, 2, none⟩) (by show W3.heap.size ≤ y0.heap.size; omega) _)) ?_
          clear hK K
          try simp only [Act.put, List.setIfInBounds_toArray, List.set_cons_zero, List.set_cons_succ]
          have hne : y0.heap.size ≠ y17.heap.size := by omega
          have r5 := (Below.heap_setCell ((y25.setCell ⟨y0.heap.size, 0, none⟩ (.slice X11 a.cls.length x11)).setCell ⟨y0.heap.size, 1, none⟩ (.slice X12 a.next.length x12)) ⟨y0.heap.size, 2, none⟩ (.slice X13 a.marks.length x13) _ (fun e => hne e.symm)).trans ((Below.heap_setCell (y25.setCell ⟨y0.heap.size, 0, none⟩ (.slice X11 a.cls.length x11)) ⟨y0.heap.size, 1, none⟩ (.slice X12 a.next.length x12) _ (fun e => hne e.symm)).trans ((Below.heap_setCell y25 ⟨y0.heap.size, 0, none⟩ (.slice X11 a.cls.length x11) _ (fun e => hne e.symm)).trans q5))
          obtain ⟨d0, d1, d2⟩ := cells3 r5
          have df := fun j => frozen_of_row _ _ j _ _ r5
          clear c0 c1 c2 cf
          refine wpAnyT_one (i := 7) rfl (by kernel_rfl) (by rfl) (fun K hK => ?_)
          generalize hyz : ((y25.setCell ⟨y0.heap.size, 0, none⟩ (.slice X11 a.cls.length x11)).setCell ⟨y0.heap.size, 1, none⟩ (.slice X12 a.next.length x12)).setCell ⟨y0.heap.size, 2, none⟩ (.slice X13 a.marks.length x13) = yz at *
          have HYZ := Lib.hid hyz
          clear hyz
          go_simp
          refine hK _ _ (no_need (by kernel_rfl)) ?_
          clear hK K
          try simp only [Act.put, List.setIfInBounds_toArray, List.set_cons_zero, List.set_cons_succ]
          refine wpAnyT_done (by kernel_rfl) ?_ _
          refine NoPanic.normal ?_
          clear d0 d1 d2 df
          go_wp2_with fail
          go_meet
          exact ⟨_, _, ⟨X11, x11, X12, x12, X13, x13⟩, ⟨X21, x21, X22, x22, X23, x23⟩, rfl, rfl, two_put q4 q5 hne (o1.lower (by omega)) (o2.lower (by omega)) (fun k hk => by omega) (fun k hk => by omega) hBel (by omega) (by omega) _ (by rw [HYZ.out]), by omega, by omega⟩
      · go_simp
        refine hK _ _ (fun _ _ => hSo2 _ (hBel.alloc hBel.size _)) ?_
        have s26 : y0.heap.size < (y0.alloc (.cells #[.slice none 0 0, .slice none 0 0, .slice none 0 0] 42)).heap.size := by simp
        have q5 := World.alloc_heap_new y0 (.cells #[.slice none 0 0, .slice none 0 0, .slice none 0 0] 42)
        have hBel' := hBel.alloc hBel.size (.cells #[.slice none 0 0, .slice none 0 0, .slice none 0 0] 42)
        clear hBel
        have hBel := hBel'
        clear hBel'
        clear hK K
        try simp only [Act.put, List.setIfInBounds_toArray, List.set_cons_zero, List.set_cons_succ]
        generalize hy26 : y0.alloc (.cells #[.slice none 0 0, .slice none 0 0, .slice none 0 0] 42) = y26 at *
        clear hy26
        refine wpAnyT_two (i := 1) (j := 4) rfl rfl (by kernel_rfl) (by rfl) (by rfl) (fun K hK => ?_) (fun K hK => ?_)
        · go_simp
          refine (hc1 y26 hBel).mono ?_
          rintro e y27 ⟨h1, rfl, hO, hBx⟩
          obtain ⟨X11, x11, X12, x12, X13, x13⟩ := h1
          have hBel' := hBel.trans (hBx.mono hBel.size)
          try dsimp only [dfaV, dfaC]
          refine hK _ _ (fun _ _ => hSo2 _ hBel') ?_
          have s27 := hBx.size
          have q5 := (hBx.block _ (by omega)).trans q5
          have o1 := (DfaW.g hO).bound
          clear hO hBel hBx
          have hBel := hBel'
          clear hBel'
          clear hK K
          try simp only [Act.put, List.setIfInBounds_toArray, List.set_cons_zero, List.set_cons_succ]
          refine wpAnyT_two (i := 3) (j := 4) rfl rfl (by kernel_rfl) (by rfl) (by rfl) (fun K hK => ?_) (fun K hK => ?_)
          · go_simp
            refine (hc2 y27 hBel).mono ?_
            rintro e y28 ⟨h2, rfl, hO, hBx⟩
            obtain ⟨X21, x21, X22, x22, X23, x23⟩ := h2
            have hBel' := hBel.trans (hBx.mono hBel.size)
            try dsimp only [dfaV, dfaC]
            refine hK _ _ (fun _ _ => hSo2 _ hBel') ?_
            have s28 := hBx.size
            have q5 := (hBx.block _ (by omega)).trans q5
            have o1 := o1.below hBx
            have o2 := (DfaW.g hO).bound
            clear hO hBel hBx
            have hBel := hBel'
            clear hBel'
            clear hK K
            try simp only [Act.put, List.setIfInBounds_toArray, List.set_cons_zero, List.set_cons_succ]
            refine wpAnyT_one (i := 4) rfl (by kernel_rfl) (by rfl) (fun K hK => ?_)
            go_simp
            refine hK _ _ (fun _ _ => hSo2 _ (hBel.alloc hBel.size _)) ?_
            have s29 : y28.heap.size < (y28.alloc (.cells #[.slice none 0 0, .slice none 0 0, .slice none 0 0] 42)).heap.size := by simp
            have q5 := (Below.heap_alloc y28 (.cells #[.slice none 0 0, .slice none 0 0, .slice none 0 0] 42) _ (by omega)).trans q5
            have o1 := o1.step (w' := y28.alloc (.cells #[.slice none 0 0, .slice none 0 0, .slice none 0 0] 42)) fun b _ hl => Below.heap_alloc _ _ b hl
            have o2 := o2.step (w' := y28.alloc (.cells #[.slice none 0 0, .slice none 0 0, .slice none 0 0] 42)) fun b _ hl => Below.heap_alloc _ _ b hl
            have q4 := World.alloc_heap_new y28 (.cells #[.slice none 0 0, .slice none 0 0, .slice none 0 0] 42)
            have hBel' := hBel.alloc hBel.size (.cells #[.slice none 0 0, .slice none 0 0, .slice none 0 0] 42)
            clear hBel
            have hBel := hBel'
            clear hBel'
            clear hK K
            try simp only [Act.put, List.setIfInBounds_toArray, List.set_cons_zero, List.set_cons_succ]
            generalize hy29 : y28.alloc (.cells #[.slice none 0 0, .slice none 0 0, .slice none 0 0] 42) = y29 at *
            clear hy29
            obtain ⟨c0, c1, c2⟩ := cells3 q4
            have cf : ∀ j, y29.frozen? ⟨y28.heap.size, j, none⟩ = false := fun j => frozen_of_row _ _ j _ _ q4
            refine wpAnyT_one (i := 6) rfl (by kernel_rfl) (by rfl) (fun K hK => ?_)
            go_simp
            refine hK _ _ (fun _ _ => hSo2 _ (((hBel.setCell (p := ⟨y28.heap.size, 0, none⟩) (by show W3.heap.size ≤ y28.heap.size; omega) _).setCell (p := ⟨y28.heap.size, 1, none⟩) (by show W3.heap.size ≤ y28.heap.size; omega) _).setCell (p := ⟨y28.heap.size, 2, none⟩) (by show W3.heap.size ≤ y28.heap.size; omega) _)) ?_
            clear hK K
            try simp only [Act.put, List.setIfInBounds_toArray, List.set_cons_zero, List.set_cons_succ]
            have hne : y28.heap.size ≠ y0.heap.size := by omega
            have r5 := (Below.heap_setCell ((y29.setCell ⟨y28.heap.size, 0, none⟩ (.slice X11 a.cls.length x11)).setCell ⟨y28.heap.size, 1, none⟩ (.slice X12 a.next.length x12)) ⟨y28.heap.size, 2, none⟩ (.slice X13 a.marks.length x13) _ (fun e => hne e.symm)).trans ((Below.heap_setCell (y29.setCell ⟨y28.heap.size, 0, none⟩ (.slice X11 a.cls.length x11)) ⟨y28.heap.size, 1, none⟩ (.slice X12 a.next.length x12) _ (fun e => hne e.symm)).trans ((Below.heap_setCell y29 ⟨y28.heap.size, 0, none⟩ (.slice X11 a.cls.length x11) _ (fun e => hne e.symm)).trans q5))
            obtain ⟨d0, d1, d2⟩ := cells3 r5
            have df := fun j => frozen_of_row _ _ j _ _ r5
            clear c0 c1 c2 cf
            refine wpAnyT_one (i := 7) rfl (by kernel_rfl) (by rfl) (fun K hK => ?_)
            generalize hyz : ((y29.setCell ⟨y28.heap.size, 0, none⟩ (.slice X11 a.cls.length x11)).setCell ⟨y28.heap.size, 1, none⟩ (.slice X12 a.next.length x12)).setCell ⟨y28.heap.size, 2, none⟩ (.slice X13 a.marks.length x13) = yz at *
            have HYZ := Lib.hid hyz
            clear hyz
            go_simp
            refine hK _ _ (no_need (by kernel_rfl)) ?_
            clear hK K
            try simp only [Act.put, List.setIfInBounds_toArray, List.set_cons_zero, List.set_cons_succ]
            refine wpAnyT_done (by kernel_rfl) ?_ _
            refine NoPanic.normal ?_
            clear d0 d1 d2 df
            go_wp2_with fail
            go_meet
            exact ⟨_, _, ⟨X11, x11, X12, x12, X13, x13⟩, ⟨X21, x21, X22, x22, X23, x23⟩, rfl, rfl, two_put q4 q5 hne (o1.lower (by omega)) (o2.lower (by omega)) (fun k hk => by omega) (fun k hk => by omega) hBel (by omega) (by omega) _ (by rw [HYZ.out]), by omega, by omega⟩
          · go_simp
            refine hK _ _ (fun _ _ => hSo2 _ (hBel.alloc hBel.size _)) ?_
            have s30 : y27.heap.size < (y27.alloc (.cells #[.slice none 0 0, .slice none 0 0, .slice none 0 0] 42)).heap.size := by simp
            have q5 := (Below.heap_alloc y27 (.cells #[.slice none 0 0, .slice none 0 0, .slice none 0 0] 42) _ (by omega)).trans q5
            have o1 := o1.step (w' := y27.alloc (.cells #[.slice none 0 0, .slice none 0 0, .slice none 0 0] 42)) fun b _ hl => Below.heap_alloc _ _ b hl
            have q4 := World.alloc_heap_new y27 (.cells #[.slice none 0 0, .slice none 0 0, .slice none 0 0] 42)
            have hBel' := hBel.alloc hBel.size (.cells #[.slice none 0 0, .slice none 0 0, .slice none 0 0] 42)
            clear hBel
            have hBel := hBel'
            clear hBel'
            clear hK K
            try simp only [Act.put, List.setIfInBounds_toArray, List.set_cons_zero, List.set_cons_succ]
            generalize hy30 : y27.alloc (.cells #[.slice none 0 0, .slice none 0 0, .slice none 0 0] 42) = y30 at *
            clear hy30
            refine wpAnyT_one (i := 3) rfl (by kernel_rfl) (by rfl) (fun K hK => ?_)
            go_simp
            refine (hc2 y30 hBel).mono ?_
            rintro e y31 ⟨h2, rfl, hO, hBx⟩
            obtain ⟨X21, x21, X22, x22, X23, x23⟩ := h2
            have hBel' := hBel.trans (hBx.mono hBel.size)
            try dsimp only [dfaV, dfaC]
            refine hK _ _ (fun _ _ => hSo2 _ hBel') ?_
            have s31 := hBx.size
            have q5 := (hBx.block _ (by omega)).trans q5
            have q4 := (hBx.block _ (by omega)).trans q4
            have o1 := o1.below hBx
            have o2 := (DfaW.g hO).bound
            clear hO hBel hBx
            have hBel := hBel'
            clear hBel'
            clear hK K
            try simp only [Act.put, List.setIfInBounds_toArray, List.set_cons_zero, List.set_cons_succ]
            obtain ⟨c0, c1, c2⟩ := cells3 q4
            have cf : ∀ j, y31.frozen? ⟨y27.heap.size, j, none⟩ = false := fun j => frozen_of_row _ _ j _ _ q4
            refine wpAnyT_one (i := 6) rfl (by kernel_rfl) (by rfl) (fun K hK => ?_)
            go_simp
            refine hK _ _ (fun _ _ => hSo2 _ (((hBel.setCell (p := ⟨y27.heap.size, 0, none⟩) (by show W3.heap.size ≤ y27.heap.size; omega) _).setCell (p := ⟨y27.heap.size, 1, none⟩) (by show W3.heap.size ≤ y27.heap.size; omega) _).setCell (p := ⟨y27.heap.size, 2, none⟩) (by show W3.heap.size ≤ y27.heap.size; omega) _)) ?_
            clear hK K
            try simp only [Act.put, List.setIfInBounds_toArray, List.set_cons_zero, List.set_cons_succ]
            have hne : y27.heap.size ≠ y0.heap.size := by omega
            have r5 := (Below.heap_setCell ((y31.setCell ⟨y27.heap.size, 0, none⟩ (.slice X11 a.cls.length x11)).setCell ⟨y27.heap.size, 1, none⟩ (.slice X12 a.next.length x12)) ⟨y27.heap.size, 2, none⟩ (.slice X13 a.marks.length x13) _ (fun e => hne e.symm)).trans ((Below.heap_setCell (y31.setCell ⟨y27.heap.size, 0, none⟩ (.slice X11 a.cls.length x11)) ⟨y27.heap.size, 1, none⟩ (.slice X12 a.next.length x12) _ (fun e => hne e.symm)).trans ((Below.heap_setCell y31 ⟨y27.heap.size, 0, none⟩ (.slice X11 a.cls.length x11) _ (fun e => hne e.symm)).trans q5))
            obtain ⟨d0, d1, d2⟩ := cells3 r5
            have df := fun j => frozen_of_row _ _ j _ _ r5
            clear c0 c1 c2 cf
            refine wpAnyT_one (i := 7) rfl (by kernel_rfl) (by rfl) (fun K hK => ?_)
            generalize hyz : ((y31.setCell ⟨y27.heap.size, 0, none⟩ (.slice X11 a.cls.length x11)).setCell ⟨y27.heap.size, 1, none⟩ (.slice X12 a.next.length x12)).setCell ⟨y27.heap.size, 2, none⟩ (.slice X13 a.marks.length x13) = yz at *
            have HYZ := Lib.hid hyz
            clear hyz
            go_simp
            refine hK _ _ (no_need (by kernel_rfl)) ?_
            clear hK K
            try simp only [Act.put, List.setIfInBounds_toArray, List.set_cons_zero, List.set_cons_succ]
            refine wpAnyT_done (by kernel_rfl) ?_ _
            refine NoPanic.normal ?_
            clear d0 d1 d2 df
            go_wp2_with fail
            go_meet
            exact ⟨_, _, ⟨X11, x11, X12, x12, X13, x13⟩, ⟨X21, x21, X22, x22, X23, x23⟩, rfl, rfl, two_put q4 q5 hne (o1.lower (by omega)) (o2.lower (by omega)) (fun k hk => by omega) (fun k hk => by omega) hBel (by omega) (by omega) _ (by rw [HYZ.out]), by omega, by omega⟩
        · go_simp
          refine hK _ _ (fun _ _ => hSo2 _ (hBel.alloc hBel.size _)) ?_
          have s32 : y26.heap.size < (y26.alloc (.cells #[.slice none 0 0, .slice none 0 0, .slice none 0 0] 42)).heap.size := by simp
          have q5 := (Below.heap_alloc y26 (.cells #[.slice none 0 0, .slice none 0 0, .slice none 0 0] 42) _ (by omega)).trans q5
          have q4 := World.alloc_heap_new y26 (.cells #[.slice none 0 0, .slice none 0 0, .slice none 0 0] 42)
          have hBel' := hBel.alloc hBel.size (.cells #[.slice none 0 0, .slice none 0 0, .slice none 0 0] 42)
          clear hBel
          have hBel := hBel'
          clear hBel'
          clear hK K
          try simp only [Act.put, List.setIfInBounds_toArray, List.set_cons_zero, List.set_cons_succ]
          generalize hy32 : y26.alloc (.cells #[.slice none 0 0, .slice none 0 0, .slice none 0 0] 42) = y32 at *
          clear hy32
          refine wpAnyT_one (i := 1) rfl (by kernel_rfl) (by rfl) (fun K hK => ?_)
          go_simp
          refine (hc1 y32 hBel).mono ?_
          rintro e y33 ⟨h1, rfl, hO, hBx⟩
          obtain ⟨X11, x11, X12, x12, X13, x13⟩ := h1
          have hBel' := hBel.trans (hBx.mono hBel.size)
          try dsimp only [dfaV, dfaC]
          refine hK _ _ (fun _ _ => hSo2 _ hBel') ?_
          have s33 := hBx.size
          have q5 := (hBx.block _ (by omega)).trans q5
          have q4 := (hBx.block _ (by omega)).trans q4
          have o1 := (DfaW.g hO).bound
          clear hO hBel hBx
          have hBel := hBel'
          clear hBel'
          clear hK K
          try simp only [Act.put, List.setIfInBounds_toArray, List.set_cons_zero, List.set_cons_succ]
          refine wpAnyT_one (i := 3) rfl (by kernel_rfl) (by rfl) (fun K hK => ?_)
          go_simp
          refine (hc2 y33 hBel).mono ?_
          rintro e y34 ⟨h2, rfl, hO, hBx⟩
          obtain ⟨X21, x21, X22, x22, X23, x23⟩ := h2
          have hBel' := hBel.trans (hBx.mono hBel.size)
          try dsimp only [dfaV, dfaC]
          refine hK _ _ (fun _ _ => hSo2 _ hBel') ?_
          have s34 := hBx.size
          have q5 := (hBx.block _ (by omega)).trans q5
          have q4 := (hBx.block _ (by omega)).trans q4
          have o1 := o1.below hBx
          have o2 := (DfaW.g hO).bound
          clear hO hBel hBx
          have hBel := hBel'
          clear hBel'
          clear hK K
          try simp only [Act.put, List.setIfInBounds_toArray, List.set_cons_zero, List.set_cons_succ]
          obtain ⟨c0, c1, c2⟩ := cells3 q4
          have cf : ∀ j, y34.frozen? ⟨y26.heap.size, j, none⟩ = false := fun j => frozen_of_row _ _ j _ _ q4
          refine wpAnyT_one (i := 6) rfl (by kernel_rfl) (by rfl) (fun K hK => ?_)
          go_simp
          refine hK _ _ (fun _ _ => hSo2 _ (((hBel.setCell (p := ⟨y26.heap.size, 0, none⟩) (by show W3.heap.size ≤ y26.heap.size; omega) _).setCell (p := ⟨y26.heap.size, 1, none⟩) (by show W3.heap.size ≤ y26.heap.size; omega) _).setCell (p := ⟨y26.heap.size, 2, none⟩) (by show W3.heap.size ≤ y26.heap.size; omega) _)) ?_
          clear hK K
          try simp only [Act.put, List.setIfInBounds_toArray, List.set_cons_zero, List.set_cons_succ]
          have hne : y26.heap.size ≠ y0.heap.size := by omega
          have r5 := (Below.heap_setCell ((y34.setCell ⟨y26.heap.size, 0, none⟩ (.slice X11 a.cls.length x11)).setCell ⟨y26.heap.size, 1, none⟩ (.slice X12 a.next.length x12)) ⟨y26.heap.size, 2, none⟩ (.slice X13 a.marks.length x13) _ (fun e => hne e.symm)).trans ((Below.heap_setCell (y34.setCell ⟨y26.heap.size, 0, none⟩ (.slice X11 a.cls.length x11)) ⟨y26.heap.size, 1, none⟩ (.slice X12 a.next.length x12) _ (fun e => hne e.symm)).trans ((Below.heap_setCell y34 ⟨y26.heap.size, 0, none⟩ (.slice X11 a.cls.length x11) _ (fun e => hne e.symm)).trans q5))
          obtain ⟨d0, d1, d2⟩ := cells3 r5
          have df := fun j => frozen_of_row _ _ j _ _ r5
          clear c0 c1 c2 cf
          refine wpAnyT_one (i := 7) rfl (by kernel_rfl) (by rfl) (fun K hK => ?_)
          generalize hyz : ((y34.setCell ⟨y26.heap.size, 0, none⟩ (.slice X11 a.cls.length x11)).setCell ⟨y26.heap.size, 1, none⟩ (.slice X12 a.next.length x12)).setCell ⟨y26.heap.size, 2, none⟩ (.slice X13 a.marks.length x13) = yz at *
          have HYZ := Lib.hid hyz
          clear hyz
          go_simp
          refine hK _ _ (no_need (by kernel_rfl)) ?_
          clear hK K
          try simp only [Act.put, List.setIfInBounds_toArray, List.set_cons_zero, List.set_cons_succ]
          refine wpAnyT_done (by kernel_rfl) ?_ _
          refine NoPanic.normal ?_
          clear d0 d1 d2 df
          go_wp2_with fail
          go_meet
          exact ⟨_, _, ⟨X11, x11, X12, x12, X13, x13⟩, ⟨X21, x21, X22, x22, X23, x23⟩, rfl, rfl, two_put q4 q5 hne (o1.lower (by omega)) (o2.lower (by omega)) (fun k hk => by omega) (fun k hk => by omega) hBel (by omega) (by omega) _ (by rw [HYZ.out]), by omega, by omega⟩
    case rest =>
      obtain ⟨g11, g12, h3, h4, rfl, rfl, ⟨r11, r12, o3, o4, hB5⟩, l11, l12⟩ := hcut
      obtain ⟨W5, rfl⟩ : ∃ x : World, x = wc := ⟨_, rfl⟩
      have hBw5 := HBw3.out.trans (hB5.mono HBw3.out.size)
      have M : MkS W5 g9 g10 g11 g12 h1 h2 h3 h4 a b :=
        ⟨(hB5.block _ hz9).trans HR9.out, (hB5.block _ hz10).trans HR10.out, r11, r12, ((DfaG.o (HO1.out.mono fun _ h => h)).reads.mono fun _ _ => trivial).below hB5, ((DfaG.o (HO2.out.mono fun _ h => h)).reads.mono fun _ _ => trivial).below hB5, (DfaG.w o3).reads.mono fun _ _ => trivial, (DfaG.w o4).reads.mono fun _ _ => trivial⟩
      have hl9 : w.heap.size ≤ W5.heap.size := hBw5.size
      clear r11 r12 o3 o4 hB5 l9 l10 l11 l12 hz9 hz10 HR9 HR10 HO1 HO2 HBw3 HQ0 HQ1 HB1 hc1 hc2 a0 a1 a2 b0 b1 b2 hz1
      have HM := Lib.hid M
      have HBW := Lib.hid hBw5
      clear M hBw5
      obtain ⟨P1, p1, P2, p2, P3, p3⟩ := h1
      obtain ⟨Q1, q1, Q2, q2, Q3, q3⟩ := h2
      obtain ⟨X1, x1, X2, x2, X3, x3⟩ := h3
      obtain ⟨Y1, y1, Y2, y2, Y3, y3⟩ := h4
      have HSX := Lib.hid (fun W' (hW' : Below W5.heap.size W5 W') => c_same _ _ a a _ _ W' (HM.out.below hW').p SA.out (HM.out.below hW').x)
      have HSY := Lib.hid (fun W' (hW' : Below W5.heap.size W5 W') => c_same _ _ b b _ _ W' (HM.out.below hW').q SB.out (HM.out.below hW').y)
      simp only [sameD_refl, dfaV, dfaC] at HSX HSY
      have hopw : IntKind.i64.wrap (op : Int) = op := by rw [IntKind.wrap_i64]; omega
      obtain ⟨a0, a1, a2⟩ := cells3 HM.out.r9
      obtain ⟨b0, b1, b2⟩ := cells3 HM.out.r10
      obtain ⟨c0, c1, c2⟩ := cells3 HM.out.r11
      obtain ⟨d0, d1, d2⟩ := cells3 HM.out.r12
      dsimp only at a0 a1 a2 b0 b1 b2 c0 c1 c2 d0 d1 d2
      go_upto_region 5 with (first
        | (go_at_call 16; (with_reducible refine (HSX.out W5 (Below.refl _ _)).mono ?_); rintro e w6 ⟨rfl, hB6⟩
           obtain ⟨e0, e1, e2⟩ := cells3 (HM.out.below hB6).r9; obtain ⟨f0, f1, f2⟩ := cells3 (HM.out.below hB6).r10; obtain ⟨g0, g1, g2⟩ := cells3 (HM.out.below hB6).r11; obtain ⟨i0, i1, i2⟩ := cells3 (HM.out.below hB6).r12; dsimp only at e0 e1 e2 f0 f1 f2 g0 g1 g2 i0 i1 i2)
        | (go_at_call 16; (with_reducible refine (HSY.out w6 hB6).mono ?_); rintro e w7 ⟨rfl, hB7⟩))
      have hB57 := hB6.trans (hB7.mono hB6.size)
      have HM7 := Lib.hid (HM.out.below hB57)
      have HB57 := Lib.hid hB57
      have hz57 := hB57.size
      obtain ⟨h9, h10⟩ : g9 < w7.heap.size ∧ g10 < w7.heap.size := ⟨(Array.getElem?_eq_some_iff.1 HM7.out.r9).1, (Array.getElem?_eq_some_iff.1 HM7.out.r10).1⟩
      obtain ⟨h11, h12⟩ : g11 < w7.heap.size ∧ g12 < w7.heap.size := ⟨(Array.getElem?_eq_some_iff.1 HM7.out.r11).1, (Array.getElem?_eq_some_iff.1 HM7.out.r12).1⟩
      clear hB6 hB7 hB57 a0 a1 a2 b0 b1 b2 c0 c1 c2 d0 d1 d2 e0 e1 e2 f0 f1 f2 g0 g1 g2 i0 i1 i2
      obtain ⟨c0, c1, c2⟩ := cells3 HM7.out.r11
      obtain ⟨d0, d1, d2⟩ := cells3 HM7.out.r12
      dsimp only at c0 c1 c2 d0 d1 d2
      have hRO := c_refProd _ _ a b op fuel _ _ w7 hop ⟨HM7.out.x, SA.out⟩ ⟨HM7.out.y, SB.out⟩
      have HP3 := Lib.hid (fun W' (hW' : Below w7.heap.size w7 W') => c_ref19Parts _ _ a b 3 fuel _ _ W' (by decide) ⟨(HM7.out.below hW').x, SA.out⟩ ⟨(HM7.out.below hW').y, SB.out⟩)
      have HP4 := Lib.hid (fun W' (hW' : Below w7.heap.size w7 W') => c_ref19Parts _ _ a b 4 fuel _ _ W' (by decide) ⟨(HM7.out.below hW').x, SA.out⟩ ⟨(HM7.out.below hW').y, SB.out⟩)
      simp only [dfaV, dfaC] at hRO HP3 HP4
      have e3 : ((3 : Nat) : Int) = 3 := rfl
      have e4 : ((4 : Nat) : Int) = 4 := rfl
      rw [e3] at HP3
      rw [e4] at HP4
      clear e3 e4
      have HOS := Lib.hid (ofB_sizes (a := a) (b := b) (op := op) (fuel := fuel))
      have HOE := Lib.hid (rfl : ofB a b op fuel = ofB a b op fuel)
      have hwe : ∃ D e, ofB a b op fuel = (D, e) := ⟨_, _, rfl⟩
      obtain ⟨D, er, hD⟩ := hwe
      rw [hD] at hRO HOS
      have HD := Lib.hid hD
      clear hD HOE
      dsimp only at hRO HOS
      go_upto_region 6 with (go_at_call 17; refine hRO.mono ?_; rintro e w8 ⟨h5, rfl, hO8, hB8⟩; obtain ⟨V1, v1, V2, v2, V3, v3⟩ := h5; (try dsimp only))
      refine wp_name fun W8 hW8 => ?_
      have r13 : W8.heap[w8.heap.size]? = some (.cells #[.slice V1 D.cls.length v1, .slice V2 D.next.length v2, .slice V3 D.marks.length v3] 42 (0, 0)) := by rw [← hW8]; exact World.alloc_heap_new w8 _
      have hB88 : Below w8.heap.size w8 W8 := by rw [← hW8]; exact (Below.refl _ _).alloc (Nat.le_refl _) _
      clear hW8
      have hB78 := hB8.trans (hB88.mono hB8.size)
      have HT13 := Lib.hid ((DfaW.reads hO8).below hB88)
      have HM8 := Lib.hid (HM7.out.below hB78)
      have HB78 := Lib.hid hB78
      have HR13 := Lib.hid r13
      obtain ⟨g13, hg13⟩ : ∃ g, g = w8.heap.size := ⟨_, rfl⟩
      rw [← hg13] at HR13 ⊢
      have hz78 := hB78.size
      have hg13l : g13 < W8.heap.size := (Array.getElem?_eq_some_iff.1 HR13.out).1
      clear hg13 hO8 hB8 hB88 r13 hB78 c0 c1 c2 d0 d1 d2
      obtain ⟨c0, c1, c2⟩ := cells3 HM8.out.r11
      obtain ⟨d0, d1, d2⟩ := cells3 HM8.out.r12
      dsimp only at c0 c1 c2 d0 d1 d2
      go_upto_region 8 with (first
        | (go_at_call 18; with_reducible refine (HP3.out W8 HB78.out).mono ?_; rintro e w9 ⟨bs3, vs3, ok3, er3, hP3, rfl, hO9, hB9⟩
           obtain ⟨g0, g1, g2⟩ := cells3 (HM8.out.below hB9).r11; obtain ⟨i0, i1, i2⟩ := cells3 (HM8.out.below hB9).r12; dsimp only at g0 g1 g2 i0 i1 i2)
        | (go_at_call 18; with_reducible refine (HP4.out w9 (HB78.out.trans (hB9.mono HB78.out.size))).mono ?_; rintro e w10 ⟨bs4, vs4, ok4, er4, hP4, rfl, hO10, hB10⟩))
      have hB810 := hB9.trans (hB10.mono hB9.size)
      have HM10 := Lib.hid (HM8.out.below hB810)
      have HT10 := Lib.hid (HT13.out.below hB810)
      have HR10 := Lib.hid ((hB810.block _ hg13l).trans HR13.out)
      obtain ⟨S3, t3, rfl, -, -, sb3⟩ := hO9.reads
      obtain ⟨S4, t4, rfl, -, -, sb4⟩ := hO10.reads
      have HS3 := Lib.hid (S_below sb3 hB10)
      have HS4 := Lib.hid sb4
      have HW10 := Lib.hid (HBW.out.trans ((HB57.out.trans ((HB78.out.trans (hB810.mono HB78.out.size)).mono HB57.out.size)).mono HBW.out.size))
      have HPP3 := Lib.hid hP3
      have HPP4 := Lib.hid hP4
      have hz810 := hB810.size
      clear hB810 hB9 hB10 sb3 sb4 hO9 hO10 hP3 hP4 c0 c1 c2 d0 d1 d2 g0 g1 g2 i0 i1 i2 HM HM7 HM8 HT13 HR13 HBW HB57 HB78 HP3 HP4 HSX HSY hl9 hz57 hz78
      have hg13m : g13 < w10.heap.size := by omega
      go_wp2
      go_loopg [74] 3 (fun gk vk wr => ∃ i : Nat, vk = .int .i64 (i : Int) ∧ i ≤ 2 ∧ gk + i = 3 ∧ Below w10.heap.size w10 wr)
      case atStart => exact ⟨0, rfl, by omega, rfl, Below.refl _ _⟩
      case round =>
        obtain ⟨i, rfl, hi, hgk, hB⟩ := hrel
        have HGK := Lib.hid hgk
        have hi0 : (0 : Int) ≤ i := by omega
        have HBr := Lib.hid hB
        have HMr := Lib.hid (HM10.out.below hB)
        have HTr := Lib.hid (HT10.out.below hB)
        have HRr := Lib.hid ((hB.block _ hg13m).trans HR10.out)
        have HS3r := Lib.hid (S_below HS3.out hB)
        have HS4r := Lib.hid (S_below HS4.out hB)
        have hzr := hB.size
        clear hgk hB
        by_cases hlt : i < 2
        · have hlt' : (i : Int) < 2 := by omega
          obtain ⟨a0, a1, a2⟩ := cells3 HMr.out.r9
          obtain ⟨b0, b1, b2⟩ := cells3 HMr.out.r10
          dsimp only at a0 a1 a2 b0 b1 b2
          have hOf := c_of _ _ a b op fuel _ _ wr hop HMr.out.p HMr.out.q
          have HWi := Lib.hid (fun W' (hW' : Below wr.heap.size wr W') => c_Within _ _ a b fuel _ _ W' (HMr.out.below hW').p (HMr.out.below hW').q)
          have HEq := Lib.hid (fun W' (hW' : Below wr.heap.size wr W') => c_Equal _ _ a b fuel _ _ W' (HMr.out.below hW').p (HMr.out.below hW').q)
          simp only [dfaV, dfaC, HD.out] at hOf HWi HEq
          obtain ⟨gk0, rfl⟩ : ∃ x : Nat, x = gk := ⟨_, rfl⟩
          obtain ⟨wo, rfl⟩ : ∃ x : World, x = wr := ⟨_, rfl⟩
          go_upto_region 11 with (go_at_call 19; refine hOf.mono ?_; rintro e w11 ⟨h6, rfl, hO11, hB11⟩; obtain ⟨Z1, z1, Z2, z2, Z3, z3⟩ := h6; (try dsimp only))
          refine wp_name fun W11 hW11 => ?_
          have r21 : W11.heap[w11.heap.size]? = some (.cells #[.slice Z1 D.cls.length z1, .slice Z2 D.next.length z2, .slice Z3 D.marks.length z3] 25 (0, 0)) := by rw [← hW11]; exact World.alloc_heap_new w11 _
          have hBB : Below w11.heap.size w11 W11 := by rw [← hW11]; exact (Below.refl _ _).alloc (Nat.le_refl _) _
          have hz11 : w11.heap.size < W11.heap.size := by rw [← hW11]; simp
          clear hW11
          have hB11' := hB11.trans (hBB.mono hB11.size)
          have HG11 := Lib.hid ((DfaO.g hO11).bound.below hBB)
          have HRd := Lib.hid ((hO11.reads.below hBB).mono (G := fun _ => True) fun _ _ => trivial)
          have HR21 := Lib.hid r21
          have HB11 := Lib.hid hB11'
          have hz11' := hB11.size
          clear hO11 hB11 hBB hB11' r21 a0 a1 a2 b0 b1 b2
          obtain ⟨a0, a1, a2⟩ := cells3 (HMr.out.below HB11.out).r9
          obtain ⟨b0, b1, b2⟩ := cells3 (HMr.out.below HB11.out).r10
          dsimp only at a0 a1 a2 b0 b1 b2
          go_upto_region 13 with (first
            | (go_at_call 20; with_reducible refine (HWi.out W11 HB11.out).mono ?_; rintro e w12 ⟨bs5, vs5, ok5, er5, hP5, rfl, hO12, hB12⟩
               obtain ⟨g0, g1, g2⟩ := cells3 (HMr.out.below (HB11.out.trans (hB12.mono HB11.out.size))).r9; obtain ⟨i0, i1, i2⟩ := cells3 (HMr.out.below (HB11.out.trans (hB12.mono HB11.out.size))).r10; dsimp only at g0 g1 g2 i0 i1 i2)
            | (go_at_call 21; with_reducible refine (HEq.out w12 (HB11.out.trans (hB12.mono HB11.out.size))).mono ?_; rintro e w13 ⟨bs6, vs6, ok6, er6, hP6, rfl, hO13, hB13⟩))
          have e5 := HPP3.out.unique hP5
          have e6 := HPP4.out.unique hP6
          simp only [Prod.mk.injEq] at e5 e6
          obtain ⟨rfl, rfl, rfl⟩ := e5
          obtain ⟨rfl, rfl, rfl⟩ := e6
          have hB1113 := hB12.trans (hB13.mono hB12.size)
          have hB13o := HB11.out.trans (hB1113.mono HB11.out.size)
          obtain ⟨S5, t5, rfl, hl5, hm5, sb5⟩ := hO12.reads
          obtain ⟨S6, t6, rfl, -, -, sb6⟩ := hO13.reads
          have HU := Lib.hid (hO12.below hB13)
          have HS5 := Lib.hid (S_below sb5 hB13)
          have HS6 := Lib.hid sb6
          have HG13 := Lib.hid (HG11.out.below hB1113)
          have hsm := c_same _ _ D D _ _ w13 (HRd.out.below hB1113) HOS.out (HTr.out.below hB13o)
          simp only [sameD_refl, dfaV, dfaC] at hsm
          obtain ⟨a0, a1, a2⟩ := cells3 ((hB1113.block _ (Array.getElem?_eq_some_iff.1 HR21.out).1).trans HR21.out)
          obtain ⟨b0, b1, b2⟩ := cells3 ((hB13o.block _ (Array.getElem?_eq_some_iff.1 HRr.out).1).trans HRr.out)
          have HBE5 := Lib.hid (fun W' (hW' : Below w13.heap.size w13 W') => c_bytesEqual S5 S3 t5 t3 bs3 bs3 _ _ W' (S_below HS5.out hW') (S_below HS3r.out (hB13o.trans (hW'.mono hB13o.size))))
          have HBE6 := Lib.hid (fun W' (hW' : Below w13.heap.size w13 W') => c_bytesEqual S6 S4 t6 t4 bs4 bs4 _ _ W' (S_below HS6.out hW') (S_below HS4r.out (hB13o.trans (hW'.mono hB13o.size))))
          simp only [decide_true] at HBE5 HBE6
          have HB13o := Lib.hid hB13o
          have HB1113 := Lib.hid hB1113
          have hz13 := hB13o.size
          have hz1113 := hB1113.size
          have hzx := hB12.size
          have hzy := hB13.size
          clear g0 g1 g2 i0 i1 i2 hB12 hB13 hB1113 hB13o hO12 hO13 sb5 sb6 hP5 hP6 HPP3 HPP4
          go_upto_region 15 with (first
            | (go_at_call 16; with_reducible refine hsm.mono ?_; rintro e w14 ⟨rfl, hB14⟩)
            | (go_at_call 22; with_reducible refine (HBE5.out w14 hB14).mono ?_; rintro e w15 ⟨rfl, rfl⟩)
            | (go_at_call 22; with_reducible refine (HBE6.out w14 hB14).mono ?_; rintro e w16 ⟨rfl, rfl⟩))
          have hsp := c_spoil ⟨Z1, z1, Z2, z2, Z3, z3⟩ D wo.heap.size _ w14 (HG13.out.below hB14).o1 (HG13.out.below hB14).o2 (HG13.out.below hB14).o3 HOS.out
          simp only [dfaV, dfaC] at hsp
          have hrz := (Array.getElem?_eq_some_iff.1 HR21.out).1
          have hr14 := (hB14.block w11.heap.size (by omega)).trans ((HB1113.out.block _ hrz).trans HR21.out)
          have HU14 := Lib.hid (HU.out.below hB14)
          have HB14 := Lib.hid (HB13o.out.trans (hB14.mono HB13o.out.size))
          have hz14 := hB14.size
          clear a0 a1 a2 b0 b1 b2 hsm HBE5 HBE6 hB14
          obtain ⟨a0, a1, a2⟩ := cells3 hr14
          have HR14 := Lib.hid hr14
          clear hr14
          go_wp2_with (go_at_call 23; refine hsp.mono ?_; rintro e w15 ⟨rfl, hK15⟩)
          have hU15 := HU14.out.keep hK15 (fun k hk _ e => by have h1 : W11.heap.size ≤ k := hk; have h2 : wo.heap.size ≤ k ∧ k < w11.heap.size := e; omega)
          have HK15 := Lib.hid hK15
          have hzk := hK15.size
          clear hK15 a0 a1 a2 hsp
          go_loopg [145] (bs3.length + 1) (fun gk vk wr => ∃ (j : Nat) (us : List UInt8), vk = .int .i64 (j : Int) ∧ j ≤ bs3.length ∧ gk + j = bs3.length + 1 ∧ us.length = bs3.length ∧ OwnS Kbyte 5 wr W11.heap.size (fun k => W11.heap.size ≤ k) (.slice S5 bs3.length t5) us ∧ Kp (fun k => W11.heap.size ≤ k) w15 wr)
          case atStart => exact ⟨0, bs3, rfl, by omega, by omega, rfl, hU15, Kp.refl _ _⟩
          case round =>
            obtain ⟨j, us, rfl, hj, hgk, hul, hO, hK⟩ := hrel
            have HG2 := Lib.hid hgk
            have hj0 : (0 : Int) ≤ j := by omega
            clear hgk hU15
            by_cases hlj : j < bs3.length
            · have hlj' : (j : Int) < bs3.length := by omega
              obtain ⟨gu, cu, eu⟩ := hO.form (fun e => by rw [e] at hul; simp at hul; omega)
              obtain ⟨rfl, -, -⟩ := slice_inj eu
              have hju : j < us.length := by omega
              obtain ⟨e0, ef, -, hgB, -, -⟩ := hO.at1 (i := j) (List.getElem?_eq_getElem hju)
              have ef0 := ef j
              have hx := xor255 us[j]
              have hset := hO.set (enc := byteV) (i := j) hju (x := UInt8.ofNat (255 - us[j].toNat)) trivial
              have HSET := Lib.hid hset
              have HUL := Lib.hid hul
              have HK := Lib.hid hK
              clear hset hul hK hO ef eu
              generalize us[j] = uj at *
              try simp only [byteV] at e0
              go_wp2
              go_roundg (gk - 1)
              case measure => have := HG2.out; omega
              case rel =>
                refine ⟨j + 1, us.set j (UInt8.ofNat (255 - uj.toNat)), by go_num, by omega, by have := HG2.out; omega, by rw [List.length_set]; exact HUL.out, ?_, HK.out.setCell ⟨gu, j, none⟩ hgB _⟩
                exact HSET.out
            · obtain rfl : j = bs3.length := by omega
              have hge : ¬ ((bs3.length : Int) < bs3.length) := by omega
              have HK := Lib.hid hK
              clear hO hK
              go_wp2
              go_roundg (gk0 - 1)
              case measure => have := HGK.out; omega
              case rel =>
                refine ⟨i + 1, by go_num, by omega, by have := HGK.out; omega, ?_⟩
                have h1 := HBr.out.trans (HB14.out.mono hzr)
                have h2 : Below w10.heap.size w14 w15 := HK15.out.below (by omega) (fun k hk e => by omega)
                have h3 : Below w10.heap.size w15 wr := HK.out.below (by omega) (fun k hk e => by omega)
                exact (h1.trans h2).trans h3
        · obtain rfl : i = 2 := by omega
          have hge : ¬ (((2 : Nat) : Int) < 2) := by omega
          have HSX := Lib.hid (fun W' (hW' : Below wr.heap.size wr W') => c_same _ _ a a _ _ W' (HMr.out.below hW').p SA.out (HMr.out.below hW').x)
          have HSY := Lib.hid (fun W' (hW' : Below wr.heap.size wr W') => c_same _ _ b b _ _ W' (HMr.out.below hW').q SB.out (HMr.out.below hW').y)
          simp only [sameD_refl, dfaV, dfaC] at HSX HSY
          have hfin : ∀ (W1 W2 W3 : World), Below wr.heap.size wr W1 → Below W1.heap.size W1 W2 → Below W2.heap.size W2 W3 → Below w.heap.size w W3 := fun W1 W2 W3 e1 e2 e3 => by
            have := HW10.out.trans ((HBr.out.mono (Nat.le_refl _)).mono HW10.out.size)
            have h2 := this.trans (e1.mono this.size)
            have h3 := h2.trans (e2.mono h2.size)
            exact h3.trans (e3.mono h3.size)
          have HFIN := Lib.hid hfin
          clear hfin hopw
          have hop5 : op = 0 ∨ op = 1 ∨ op = 2 ∨ op = 3 ∨ op = 4 ∨ 5 ≤ op := by omega
          go_upto_region 23 with (fail)
          rcases hop5 with rfl | rfl | rfl | rfl | rfl | h5
          · go_upto_region 25 with (fail)
            refine wp_name fun W25 hW25 => ?_
            have hB25 : Below wr.heap.size wr W25 := by
              rw [← hW25]
              first
                | exact Below.refl _ _
                | exact (Below.refl _ _).alloc (Nat.le_refl _) _
            clear hW25
            have hnm := c_name 0 W25 (by omega)
            have hnb : nameB 0 = ⟨#[]⟩ := by rfl
            rw [hnb] at hnm
            clear hnb
            go_wp2_with (first
              | (go_at_call 24; refine hnm.mono ?_; rintro e w20 ⟨rfl, hE20⟩
                 have hX := hB25.trans (hE20.below.mono hB25.size)
                 obtain ⟨a0, a1, a2⟩ := cells3 (HMr.out.below hX).r9; obtain ⟨b0, b1, b2⟩ := cells3 (HMr.out.below hX).r11; dsimp only at a0 a1 a2 b0 b1 b2)
              | (go_at_call 16; with_reducible refine (HSX.out w20 hX).mono ?_; rintro e w21 ⟨rfl, hB21⟩
                 have hY := hX.trans (hB21.mono hX.size)
                 obtain ⟨c0, c1, c2⟩ := cells3 (HMr.out.below hY).r10; obtain ⟨d0, d1, d2⟩ := cells3 (HMr.out.below hY).r12; dsimp only at c0 c1 c2 d0 d1 d2)
              | (go_at_call 16; with_reducible refine (HSY.out w21 hY).mono ?_; rintro e w22 ⟨rfl, hB22⟩))
            go_ret
            exact ⟨rfl, HFIN.out _ _ _ hX hB21 hB22⟩
          · go_upto_region 25 with (fail)
            refine wp_name fun W25 hW25 => ?_
            have hB25 : Below wr.heap.size wr W25 := by
              rw [← hW25]
              first
                | exact Below.refl _ _
                | exact (Below.refl _ _).alloc (Nat.le_refl _) _
            clear hW25
            have hnm := c_name 1 W25 (by omega)
            have hnb : nameB 1 = ⟨#[97, 110, 100]⟩ := by rfl
            rw [hnb] at hnm
            clear hnb
            go_wp2_with (first
              | (go_at_call 24; refine hnm.mono ?_; rintro e w20 ⟨rfl, hE20⟩
                 have hX := hB25.trans (hE20.below.mono hB25.size)
                 obtain ⟨a0, a1, a2⟩ := cells3 (HMr.out.below hX).r9; obtain ⟨b0, b1, b2⟩ := cells3 (HMr.out.below hX).r11; dsimp only at a0 a1 a2 b0 b1 b2)
              | (go_at_call 16; with_reducible refine (HSX.out w20 hX).mono ?_; rintro e w21 ⟨rfl, hB21⟩
                 have hY := hX.trans (hB21.mono hX.size)
                 obtain ⟨c0, c1, c2⟩ := cells3 (HMr.out.below hY).r10; obtain ⟨d0, d1, d2⟩ := cells3 (HMr.out.below hY).r12; dsimp only at c0 c1 c2 d0 d1 d2)
              | (go_at_call 16; with_reducible refine (HSY.out w21 hY).mono ?_; rintro e w22 ⟨rfl, hB22⟩))
            go_ret
            exact ⟨rfl, HFIN.out _ _ _ hX hB21 hB22⟩
          · go_upto_region 25 with (fail)
            refine wp_name fun W25 hW25 => ?_
            have hB25 : Below wr.heap.size wr W25 := by
              rw [← hW25]
              first
                | exact Below.refl _ _
                | exact (Below.refl _ _).alloc (Nat.le_refl _) _
            clear hW25
            have hnm := c_name 2 W25 (by omega)
            have hnb : nameB 2 = ⟨#[111, 114]⟩ := by rfl
            rw [hnb] at hnm
            clear hnb
            go_wp2_with (first
              | (go_at_call 24; refine hnm.mono ?_; rintro e w20 ⟨rfl, hE20⟩
                 have hX := hB25.trans (hE20.below.mono hB25.size)
                 obtain ⟨a0, a1, a2⟩ := cells3 (HMr.out.below hX).r9; obtain ⟨b0, b1, b2⟩ := cells3 (HMr.out.below hX).r11; dsimp only at a0 a1 a2 b0 b1 b2)
              | (go_at_call 16; with_reducible refine (HSX.out w20 hX).mono ?_; rintro e w21 ⟨rfl, hB21⟩
                 have hY := hX.trans (hB21.mono hX.size)
                 obtain ⟨c0, c1, c2⟩ := cells3 (HMr.out.below hY).r10; obtain ⟨d0, d1, d2⟩ := cells3 (HMr.out.below hY).r12; dsimp only at c0 c1 c2 d0 d1 d2)
              | (go_at_call 16; with_reducible refine (HSY.out w21 hY).mono ?_; rintro e w22 ⟨rfl, hB22⟩))
            go_ret
            exact ⟨rfl, HFIN.out _ _ _ hX hB21 hB22⟩
          · go_upto_region 25 with (fail)
            refine wp_name fun W25 hW25 => ?_
            have hB25 : Below wr.heap.size wr W25 := by
              rw [← hW25]
              first
                | exact Below.refl _ _
                | exact (Below.refl _ _).alloc (Nat.le_refl _) _
            clear hW25
            have hnm := c_name 3 W25 (by omega)
            have hnb : nameB 3 = ⟨#[108, 101, 115, 115]⟩ := by rfl
            rw [hnb] at hnm
            clear hnb
            go_wp2_with (first
              | (go_at_call 24; refine hnm.mono ?_; rintro e w20 ⟨rfl, hE20⟩
                 have hX := hB25.trans (hE20.below.mono hB25.size)
                 obtain ⟨a0, a1, a2⟩ := cells3 (HMr.out.below hX).r9; obtain ⟨b0, b1, b2⟩ := cells3 (HMr.out.below hX).r11; dsimp only at a0 a1 a2 b0 b1 b2)
              | (go_at_call 16; with_reducible refine (HSX.out w20 hX).mono ?_; rintro e w21 ⟨rfl, hB21⟩
                 have hY := hX.trans (hB21.mono hX.size)
                 obtain ⟨c0, c1, c2⟩ := cells3 (HMr.out.below hY).r10; obtain ⟨d0, d1, d2⟩ := cells3 (HMr.out.below hY).r12; dsimp only at c0 c1 c2 d0 d1 d2)
              | (go_at_call 16; with_reducible refine (HSY.out w21 hY).mono ?_; rintro e w22 ⟨rfl, hB22⟩))
            go_ret
            exact ⟨rfl, HFIN.out _ _ _ hX hB21 hB22⟩
          · go_upto_region 25 with (fail)
            refine wp_name fun W25 hW25 => ?_
            have hB25 : Below wr.heap.size wr W25 := by
              rw [← hW25]
              first
                | exact Below.refl _ _
                | exact (Below.refl _ _).alloc (Nat.le_refl _) _
            clear hW25
            have hnm := c_name 4 W25 (by omega)
            have hnb : nameB 4 = ⟨#[100, 105, 102, 102, 101, 114]⟩ := by rfl
            rw [hnb] at hnm
            clear hnb
            go_wp2_with (first
              | (go_at_call 24; refine hnm.mono ?_; rintro e w20 ⟨rfl, hE20⟩
                 have hX := hB25.trans (hE20.below.mono hB25.size)
                 obtain ⟨a0, a1, a2⟩ := cells3 (HMr.out.below hX).r9; obtain ⟨b0, b1, b2⟩ := cells3 (HMr.out.below hX).r11; dsimp only at a0 a1 a2 b0 b1 b2)
              | (go_at_call 16; with_reducible refine (HSX.out w20 hX).mono ?_; rintro e w21 ⟨rfl, hB21⟩
                 have hY := hX.trans (hB21.mono hX.size)
                 obtain ⟨c0, c1, c2⟩ := cells3 (HMr.out.below hY).r10; obtain ⟨d0, d1, d2⟩ := cells3 (HMr.out.below hY).r12; dsimp only at c0 c1 c2 d0 d1 d2)
              | (go_at_call 16; with_reducible refine (HSY.out w21 hY).mono ?_; rintro e w22 ⟨rfl, hB22⟩))
            go_ret
            exact ⟨rfl, HFIN.out _ _ _ hX hB21 hB22⟩
          · have g1 : (1 : Int) ≤ op := by omega
            have g2 : ¬ ((op : Int) ≤ 4) := by omega
            go_upto_region 25 with (fail)
            refine wp_name fun W25 hW25 => ?_
            have hB25 : Below wr.heap.size wr W25 := by
              rw [← hW25]
              first
                | exact Below.refl _ _
                | exact (Below.refl _ _).alloc (Nat.le_refl _) _
            clear hW25
            have hnm := c_name op W25 (by omega)
            have hnb : nameB op = ⟨#[]⟩ := by unfold nameB; split <;> first | rfl | omega
            rw [hnb] at hnm
            clear hnb
            go_wp2_with (first
              | (go_at_call 24; refine hnm.mono ?_; rintro e w20 ⟨rfl, hE20⟩
                 have hX := hB25.trans (hE20.below.mono hB25.size)
                 obtain ⟨a0, a1, a2⟩ := cells3 (HMr.out.below hX).r9; obtain ⟨b0, b1, b2⟩ := cells3 (HMr.out.below hX).r11; dsimp only at a0 a1 a2 b0 b1 b2)
              | (go_at_call 16; with_reducible refine (HSX.out w20 hX).mono ?_; rintro e w21 ⟨rfl, hB21⟩
                 have hY := hX.trans (hB21.mono hX.size)
                 obtain ⟨c0, c1, c2⟩ := cells3 (HMr.out.below hY).r10; obtain ⟨d0, d1, d2⟩ := cells3 (HMr.out.below hY).r12; dsimp only at c0 c1 c2 d0 d1 d2)
              | (go_at_call 16; with_reducible refine (HSY.out w21 hY).mono ?_; rintro e w22 ⟨rfl, hB22⟩))
            go_ret
            exact ⟨rfl, HFIN.out _ _ _ hX hB21 hB22⟩
theorem c_makes (ha hb : DA) (a b : Dfa) (op : Nat) (fuel : Int) (F G : Nat → Prop) (w : World) (hop : op < 256) (ra : DfaR w F ha a) (rb : DfaR w G hb b) (sa : DfaS a) (sb : DfaS b) :
    Calls Tryz.prog 7 #[dfaV ha a, dfaV hb b, .int .u8 (op : Int), .int .i64 fuel] w fun e w' => e = .returned (.bool true) ∧ Below w.heap.size w w' := by
  obtain ⟨A1, k1, A2, k2, A3, k3⟩ := ha
  obtain ⟨B1, m1, B2, m2, B3, m3⟩ := hb
  exact c_makes0 A1 A2 A3 B1 B2 B3 k1 k2 k3 m1 m2 m3 a b op fuel F G w hop ra rb sa sb
end Go.Proofs
