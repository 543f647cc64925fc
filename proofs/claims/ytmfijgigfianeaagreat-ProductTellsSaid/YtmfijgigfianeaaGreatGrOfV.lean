/- The reference's product, where nothing is refused at once. -/
import Derived.Test.YtmfijgigfianeaaGreatGrOfr
import Derived.Deep.DeepCutAuto
set_option linter.unusedVariables false
set_option linter.unusedSimpArgs false
namespace Rp
open Go Go.RowKit
theorem step_store_all {P : Program} {ops : Array Oper} {op : Oper} {a : Act} {w : World} {Q : Exit → Act → World → Prop} {K : Act → World → Prop} {E : Prop} (hgd : op.guard = none) (ty : TypeId) (x y : Operand) (ho : op.op = .store ty x y)
    (b : Nat) (t : TypeId) (cur cells : Array Value) (hx : a.eval x = .pointer (some ⟨b, 0, none⟩)) (hy : a.eval y = .agg cells)
    (hc : w.heap[b]? = some (.cells cur t (0, 0))) (hs : cells.size = cur.size) (hi : (P.info? ty).map (·.size) = some cells.size) (h1 : cells.all (·.oneCell') = true)
    (h : ∀ w', w'.heap[b]? = some (.cells cells t (0, 0)) → Kp (fun k => k = b) w w' → K (a.put op.dst undef) w') : if Region.wanted op (yielded ops a.tmps) = true then Oper.wp P op a w K Q else E := by
  have hw : Region.wanted op (yielded ops a.tmps) = true := by simp [Region.wanted, hgd]
  rw [if_pos hw]
  exact wp_store_mid ty x y ho b 0 cells hx hy (by rw [hs]; exact there_of_row hc) hi h1 (h _ (setCells_all hc hs) (setCells_keep b _ 0 w))
theorem mov_ne {w w' : World} {r r' : Option Nat} (h : Mov w w' r r') {g : Nat} (hg : g < w.heap.size) (hr : some g ≠ r) : some g ≠ r' := by
  rcases h.at_ with e | ⟨k, e, hk⟩
  · rw [e]; exact hr
  · rw [e]; intro e'; injection e' with e'; omega
theorem wp_store_all {P : Program} {op : Oper} {a : Act} {w : World} {Q : Exit → Act → World → Prop} {K : Act → World → Prop} (ty : TypeId) (x y : Operand) (ho : op.op = .store ty x y)
    (b : Nat) (t : TypeId) (cur cells : Array Value) (hx : a.eval x = .pointer (some ⟨b, 0, none⟩)) (hy : a.eval y = .agg cells)
    (hc : w.heap[b]? = some (.cells cur t (0, 0))) (hs : cells.size = cur.size) (hi : (P.info? ty).map (·.size) = some cells.size) (h1 : cells.all (·.oneCell') = true)
    (h : ∀ w', w'.heap[b]? = some (.cells cells t (0, 0)) → Kp (fun k => k = b) w w' → K (a.put op.dst undef) w') : Oper.wp P op a w K Q :=
  wp_store_mid ty x y ho b 0 cells hx hy (by rw [hs]; exact there_of_row hc) hi h1 (h _ (setCells_all hc hs) (setCells_keep b _ 0 w))
/-- Two that may come up. -/
theorem wpAnyT_two {P : Program} {ops : Array Oper} {Q : Exit → Act → World → Prop} {md : Region.Mode} {S : World → Prop} {L : List Nat} {i j : Nat} {oi oj : Oper} {fuel : Nat} {listed : Array Bool} {a : Act} {w : World} (hi : ops.toList[i]? = some oi) (hj : ops.toList[j]? = some oj) (hr : Region.ready md ops listed = [i, j])
    (hwi : Region.wanted oi (yielded ops a.tmps) = true) (hwj : Region.wanted oj (yielded ops a.tmps) = true)
    (h1 : ∀ K : Act → World → Prop, (∀ a' w', (needT md ops L i = true → S w → S w') → wpAnyT P md ops Q S L fuel (listed.setIfInBounds i true) a' w' → K a' w') → Oper.wp P oi a w K Q)
    (h2 : ∀ K : Act → World → Prop, (∀ a' w', (needT md ops L j = true → S w → S w') → wpAnyT P md ops Q S L fuel (listed.setIfInBounds j true) a' w' → K a' w') → Oper.wp P oj a w K Q) : wpAnyT P md ops Q S L (fuel + 1) listed a w := by
  have hi' : ops[i]? = some oi := by rw [← hi]; simp
  have hj' : ops[j]? = some oj := by rw [← hj]; simp
  refine ⟨fun h0 => (by rw [hr] at h0; cases h0), fun k hk => ?_⟩
  rw [hr] at hk
  rcases List.mem_cons.1 hk with rfl | hk
  · unfold wpOp
    simp only [hi', hwi, if_true]
    exact .inl (h1 _ fun a' w' h1 h2 => ⟨h1, h2⟩)
  · obtain rfl : k = j := by simpa using hk
    unfold wpOp
    simp only [hj', hwj, if_true]
    exact .inl (h2 _ fun a' w' h1 h2 => ⟨h1, h2⟩)
theorem range_row {w : World} {b : Nat} {cs : Array Value} {t : TypeId} (h : w.heap[b]? = some (.cells cs t (0, 0))) : w.rangeAt b 0 cs.toList := fun j v hv => by
  rw [Nat.zero_add]; exact (cell_of_row w b j _ _ _ h).trans (by simpa using hv)
theorem two_append {a b : List BSet} (h1 : a.length ≤ 1000000) (h2 : b.length ≤ 1000000) : (a ++ b).length ≤ 1000000000 := by simp; omega
end Rp
namespace Go.Proofs
open Go.RowKit Go.Shelf Rp Go.Maps
attribute [local go_sem] Oper.semAt_some
/-- An automaton of the reference of one's own. -/
structure DfaW (w : World) (base : Nat) (h : DA) (d : Dfa) : Prop where
  o1 : OwnS Kref 75 w base (fun b => base ≤ b) (.slice h.A1 d.cls.length h.c1) d.cls
  o2 : OwnS KintF 36 w base (fun b => base ≤ b) (.slice h.A2 d.next.length h.c2) d.next
  o3 : OwnS KintF 36 w base (fun b => base ≤ b) (.slice h.A3 d.marks.length h.c3) d.marks
theorem noDfaW (w : World) (base : Nat) : DfaW w base nilDA noDfa := ⟨OwnS.nil _ _ _ _ _, OwnS.nil _ _ _ _ _, OwnS.nil _ _ _ _ _⟩
set_option maxRecDepth 100000 in
set_option maxHeartbeats 12800000 in
theorem c_ofv (A1 A2 A3 B1 B2 B3 : Option Addr) (k1 k2 k3 m1 m2 m3 : Nat) (a b : Dfa) (op : Nat) (fuel : Int) (F G : Nat → Prop) (w : World) (hop : op < 256) (ra : DfaU w F ⟨A1, k1, A2, k2, A3, k3⟩ a) (rb : DfaU w G ⟨B1, m1, B2, m2, B3, m3⟩ b) (hw : errB a b op fuel = none) :
    Calls Tryz.prog 17 #[.agg #[.slice A1 a.cls.length k1, .slice A2 a.next.length k2, .slice A3 a.marks.length k3], .agg #[.slice B1 b.cls.length m1, .slice B2 b.next.length m2, .slice B3 b.marks.length m3], .int .i64 (op : Int), .int .i64 fuel] w
      fun e w' => ∃ h', e = .returned (.tuple #[dfaV h' (ofB a b op fuel).1, .int .i64 (ofB a b op fuel).2]) ∧ DfaW w' w.heap.size h' (ofB a b op fuel).1 ∧ Below w.heap.size w w' := by
  have hra := fun W' (hW' : Below w.heap.size w W') => (ra.below hW').right
  have hrb := fun W' (hW' : Below w.heap.size w W') => (rb.below hW').right
  go_enter Tryz.func17, Tryz.ntmps17
  go_upto_region 2 with (fail)
  refine wp_name fun W0 hW0 => ?_
  have q0 : W0.heap[w.heap.size]? = some (.cells #[.slice A1 a.cls.length k1, .slice A2 a.next.length k2, .slice A3 a.marks.length k3] 42 (0, 0)) := by
    rw [← hW0]; exact (Below.heap_alloc _ _ _ (by simp <;> omega)).trans ((Below.heap_alloc _ _ _ (by simp <;> omega)).trans ((Below.heap_alloc _ _ _ (by simp)).trans (World.alloc_heap_new w _)))
  have q1 : W0.heap[w.heap.size + 1]? = some (.cells #[.slice B1 b.cls.length m1, .slice B2 b.next.length m2, .slice B3 b.marks.length m3] 42 (0, 0)) := by
    rw [← hW0]; refine (Below.heap_alloc _ _ _ (by simp <;> omega)).trans ((Below.heap_alloc _ _ _ (by simp)).trans ?_)
    have := World.alloc_heap_new (w.alloc (.cells #[.slice A1 a.cls.length k1, .slice A2 a.next.length k2, .slice A3 a.marks.length k3] 42)) (.cells #[.slice B1 b.cls.length m1, .slice B2 b.next.length m2, .slice B3 b.marks.length m3] 42)
    simpa using this
  have q2 : W0.heap[w.heap.size + 1 + 1]? = some (.cells #[.slice none 0 0, .slice none 0 0, .slice none 0 0] 42 (0, 0)) := by
    rw [← hW0]; refine (Below.heap_alloc _ _ _ (by simp)).trans ?_
    have := World.alloc_heap_new ((w.alloc (.cells #[.slice A1 a.cls.length k1, .slice A2 a.next.length k2, .slice A3 a.marks.length k3] 42)).alloc (.cells #[.slice B1 b.cls.length m1, .slice B2 b.next.length m2, .slice B3 b.marks.length m3] 42)) (.cells #[.slice none 0 0, .slice none 0 0, .slice none 0 0] 42)
    simpa using this
  have q3 : W0.heap[w.heap.size + 1 + 1 + 1]? = some (.cells #[.slice none 0 0, .slice none 0 0, .slice none 0 0] 42 (0, 0)) := by
    rw [← hW0]
    have := World.alloc_heap_new (((w.alloc (.cells #[.slice A1 a.cls.length k1, .slice A2 a.next.length k2, .slice A3 a.marks.length k3] 42)).alloc (.cells #[.slice B1 b.cls.length m1, .slice B2 b.next.length m2, .slice B3 b.marks.length m3] 42)).alloc (.cells #[.slice none 0 0, .slice none 0 0, .slice none 0 0] 42)) (.cells #[.slice none 0 0, .slice none 0 0, .slice none 0 0] 42)
    simpa using this
  have hE0 : Ext w W0 := by rw [← hW0]; exact ((((Ext.refl _).alloc _).alloc _).alloc _).alloc _
  have hz0 : W0.heap.size = w.heap.size + 4 := by rw [← hW0]; simp
  clear hW0
  obtain ⟨p0, p1, p2⟩ := cells3 q0
  obtain ⟨hA, hB, hop4, hf0, hf1⟩ := errB_none hw
  have hcall := hra W0 hE0.below
  rw [hA] at hcall
  rw [hB] at hrb
  have d1 : decide ((op : Int) < 1) = false := by simp; omega
  have d2 : decide ((4 : Int) < op) = false := by simp; omega
  have d3 : decide (fuel < 0) = false := by simp; omega
  have d4 : decide (4000 < fuel) = false := by simp; omega
  have d5 : (fuel == 0) = false := by simp; omega
  have hcB : ∀ W', Below W0.heap.size W0 W' → W'.cell? ⟨w.heap.size + 1, 0, none⟩ = some (.slice B1 b.cls.length m1) ∧ W'.cell? ⟨w.heap.size + 1, 1, none⟩ = some (.slice B2 b.next.length m2) ∧ W'.cell? ⟨w.heap.size + 1, 2, none⟩ = some (.slice B3 b.marks.length m3) := fun W' hW' => cells3 ((hW'.block _ (Array.getElem?_eq_some_iff.1 q1).1).trans q1)
  have hcA : ∀ W', Below W0.heap.size W0 W' → W'.cell? ⟨w.heap.size, 0, none⟩ = some (.slice A1 a.cls.length k1) ∧ W'.cell? ⟨w.heap.size, 1, none⟩ = some (.slice A2 a.next.length k2) ∧ W'.cell? ⟨w.heap.size, 2, none⟩ = some (.slice A3 a.marks.length k3) := fun W' hW' => cells3 ((hW'.block _ (Array.getElem?_eq_some_iff.1 q0).1).trans q0)
  have HQ2 := Lib.hid q2
  have HQ3 := Lib.hid q3
  clear hw hra q0 q1 q2 q3
  go_upto_region 10 with (first
    | (go_at_call 30; refine hcall.mono ?_; rintro e w2 ⟨rfl, hB2⟩; obtain ⟨f0, f1, f2⟩ := hcB w2 hB2; have hBw := hE0.below.trans (hB2.mono hE0.size); clear hcall)
    | (go_at_call 30; refine (hrb w2 hBw).mono ?_; rintro e w3 ⟨rfl, hB3⟩; have hB03 := hB2.trans (hB3.mono hB2.size); obtain ⟨g0, g1, g2⟩ := hcB w3 hB03; obtain ⟨h0, h1, h2⟩ := hcA w3 hB03; clear f0 f1 f2 p0 p1 p2))
  have hBw3 := hBw.trans (hB3.mono hBw.size)
  have hA3 := ra.t.below hBw3
  have hB3' := rb.t.below hBw3
  have hz3 : w.heap.size + 4 ≤ w3.heap.size := by have := hB03.size; omega
  have hz30 : w.heap.size < w3.heap.size := by omega
  have hz31 : w.heap.size + 1 < w3.heap.size := by omega
  have hl1 : a.cls.length ≤ 256 := by rw [← right_parts hA]; exact parts_le _
  have hl2 : b.cls.length ≤ 256 := by rw [← right_parts hB]; exact parts_le _
  have hz := zero_alpC
  have hAs : ∀ l, (alpA l).size = 256 := fun l => arrC_size _
  have sA := hA3.t1
  have sB := hB3'.t1
  have HA := Lib.hid hA
  have HB := Lib.hid hB
  clear hA hB hrb hB2 hB3 hcB hcA
  go_cut [11] (fun s11 wx => ∃ g : Nat, s11 = .pointer (some ⟨g, 0, none⟩) ∧ wx.heap[g]? = some (.cells (alpA (a.cls ++ b.cls)) 81 (0, 0)) ∧ Below w3.heap.size w3 wx ∧ w3.heap.size ≤ g)
  case first =>
    obtain ⟨SS, hSS⟩ : ∃ S : World → Prop, S = fun w' => w'.cell? ⟨w.heap.size, 0, none⟩ = some (.slice A1 a.cls.length k1) ∧ w'.cell? ⟨w.heap.size + 1, 0, none⟩ = some (.slice B1 b.cls.length m1) := ⟨_, rfl⟩
    have hSof : ∀ W', Below w3.heap.size w3 W' → SS W' := fun W' hW' => by rw [hSS]; exact ⟨(hW'.cell (p := ⟨w.heap.size, 0, none⟩) hz30).trans h0, (hW'.cell (p := ⟨w.heap.size + 1, 0, none⟩) hz31).trans g0⟩
    have hSi : ∀ w', SS w' → w'.cell? ⟨w.heap.size, 0, none⟩ = some (.slice A1 a.cls.length k1) ∧ w'.cell? ⟨w.heap.size + 1, 0, none⟩ = some (.slice B1 b.cls.length m1) := fun w' h => by rw [hSS] at h; exact h
    clear hSS
    refine wp_region_noPanic (wp_region_T SS [2, 5] (by kernel_rfl) ?_)
    have hBel : Below w3.heap.size w3 w3.drew := (Below.refl _ _).drew
    have hS : SS w3.drew := hSof _ hBel
    obtain ⟨y0, hy0⟩ : ∃ y, y = w3.drew := ⟨_, rfl⟩
    rw [← hy0] at hBel hS ⊢
    clear hy0
    refine wpAnyT_takeY (i := 1) (v := ?v1_1) rfl (by kernel_rfl) (by kernel_rfl) (by kernel_rfl) (fun _ _ _ h => h) (by rfl) ?hy1_1 ?r1_1
    case hy1_1 => (intro w; go_simp; try (with_reducible rfl))
    case r1_1 =>
    try simp only [Act.put, List.setIfInBounds_toArray, List.set_cons_zero, List.set_cons_succ]
    refine wpAnyT_takeY (i := 4) (v := ?v4_2) rfl (by kernel_rfl) (by kernel_rfl) (by kernel_rfl) (fun _ _ _ h => h) (by rfl) ?hy4_2 ?r4_2
    case hy4_2 => (intro w; go_simp; try (with_reducible rfl))
    case r4_2 =>
    try simp only [Act.put, List.setIfInBounds_toArray, List.set_cons_zero, List.set_cons_succ]
    refine wpAnyT_take (i := 2) (v := ?v2_3) rfl rfl (by kernel_rfl) (by kernel_rfl) (by kernel_rfl) (fun _ _ _ h => h) (by rfl) hS ?hy2_3 ?r2_3
    case hy2_3 => (intro w hSw; obtain ⟨e0, e1⟩ := hSi _ hSw; (try dsimp only at hSw); go_simp; try (with_reducible rfl))
    case r2_3 =>
    try simp only [Act.put, List.setIfInBounds_toArray, List.set_cons_zero, List.set_cons_succ]
    refine wpAnyT_take (i := 5) (v := ?v5_4) rfl rfl (by kernel_rfl) (by kernel_rfl) (by kernel_rfl) (fun _ _ _ h => h) (by rfl) hS ?hy5_4 ?r5_4
    case hy5_4 => (intro w hSw; obtain ⟨e0, e1⟩ := hSi _ hSw; (try dsimp only at hSw); go_simp; try (with_reducible rfl))
    case r5_4 =>
    try simp only [Act.put, List.setIfInBounds_toArray, List.set_cons_zero, List.set_cons_succ]
    clear h0 g0
    refine wpAnyT_two (i := 0) (j := 8) rfl rfl (by kernel_rfl) (by rfl) (by rfl) (fun K hK => ?_) (fun K hK => ?_)
    · go_simp
      refine hK _ _ (fun _ _ => hSof _ (hBel.alloc hBel.size _)) ?_
      clear hK K
      try simp only [Act.put, List.setIfInBounds_toArray, List.set_cons_zero, List.set_cons_succ]
      have hO := OwnS.fresh Kref 75 y0 w3.heap.size (fun k => w3.heap.size ≤ k) hBel.size hBel.size
      have hBel := hBel.alloc hBel.size (.cells #[] 75)
      obtain ⟨y1, hy1⟩ : ∃ y, y = y0.alloc (.cells #[] 75) := ⟨_, rfl⟩
      rw [← hy1] at hBel hO ⊢
      clear hy1
      refine wpAnyT_two (i := 3) (j := 8) rfl rfl (by kernel_rfl) (by rfl) (by rfl) (fun K hK => ?_) (fun K hK => ?_)
      · refine wp_own_appendS Kref y1 w3.heap.size _ _ 40 75 (.agg (Array.replicate 256 (.int .i64 0))) 2048 rfl Tryz.underlying40 info_ref cells_ref (by decide) (by decide) _ [] a.cls A1 k1 (fun k => w3.heap.size ≤ k) _ rfl rfl (S_below sA hBel) (fun _ _ h => h) hO (fun k hk => Nat.le_trans hBel.size hk) hBel.size (by simp; omega) ?_
        intro v3 y2 hO3 hM hv
        have hBel := Mov.below hBel hM hBel.size (fun k hk => hO.1 k hk)
        have hO := hO3
        obtain ⟨P3, c3, rfl, _, _, S3⟩ := hO.reads
        clear hO3 hM hv
        refine hK _ _ (fun _ _ => hSof _ (hBel)) ?_
        clear hK K
        try simp only [Act.put, List.setIfInBounds_toArray, List.set_cons_zero, List.set_cons_succ]
        refine wpAnyT_two (i := 6) (j := 8) rfl rfl (by kernel_rfl) (by rfl) (by rfl) (fun K hK => ?_) (fun K hK => ?_)
        · refine wp_own_appendS Kref y2 w3.heap.size _ _ 40 75 (.agg (Array.replicate 256 (.int .i64 0))) 2048 rfl Tryz.underlying40 info_ref cells_ref (by decide) (by decide) _ ([] ++ a.cls) b.cls B1 m1 (fun k => w3.heap.size ≤ k) _ rfl rfl (S_below sB hBel) (fun _ _ h => h) hO (fun k hk => Nat.le_trans hBel.size hk) hBel.size (by simp; omega) ?_
          intro v6 y3 hO6 hM hv
          have hBel := Mov.below hBel hM hBel.size (fun k hk => hO.1 k hk)
          have hO := hO6
          obtain ⟨P6, c6, rfl, _, _, S6⟩ := hO.reads
          clear hO6 hM hv
          refine hK _ _ (fun _ _ => hSof _ (hBel)) ?_
          clear hK K
          try simp only [Act.put, List.setIfInBounds_toArray, List.set_cons_zero, List.set_cons_succ]
          refine wpAnyT_two (i := 7) (j := 8) rfl rfl (by kernel_rfl) (by rfl) (by rfl) (fun K hK => ?_) (fun K hK => ?_)
          · go_simp
            try simp only [List.nil_append, List.length_append] at *
            have hco := c_refOf P6 c6 (a.cls ++ b.cls) _ y3 hO.readS (two_append (by omega) (by omega))
            simp only [List.length_append] at hco
            refine hco.mono ?_
            rintro e y4 ⟨rfl, hBx⟩
            clear hco
            have hBel := hBel.trans (hBx.mono hBel.size)
            have hO := hO.below hBx
            clear hBx
            try dsimp only
            refine hK _ _ (fun _ _ => hSof _ (hBel)) ?_
            clear hK K
            try simp only [Act.put, List.setIfInBounds_toArray, List.set_cons_zero, List.set_cons_succ]
            refine wpAnyT_one (i := 8) rfl (by kernel_rfl) (by rfl) (fun K hK => ?_)
            go_simp
            refine hK _ _ (fun _ _ => hSof _ (hBel.alloc hBel.size _)) ?_
            clear hK K
            try simp only [Act.put, List.setIfInBounds_toArray, List.set_cons_zero, List.set_cons_succ]
            have q9 := World.alloc_heap_new y4 (.cells (arrC fun _ => 0) 81)
            have hne := fun e => Nat.lt_irrefl _ (hO.lt y4.heap.size (Eq.symm e)).2
            have hO := hO.alloc (.cells (arrC fun _ => 0) 81)
            have hg9l := hBel.size
            have hBel := hBel.alloc hBel.size (.cells (arrC fun _ => 0) 81)
            obtain ⟨g9, hg9⟩ : ∃ g, g = y4.heap.size := ⟨_, rfl⟩
            obtain ⟨y5, hy5⟩ : ∃ y, y = y4.alloc (.cells (arrC fun _ => 0) 81) := ⟨_, rfl⟩
            rw [← hy5] at hBel q9 hO ⊢
            rw [← hg9] at q9 hg9l hne ⊢
            clear hy5 hg9
            refine wpAnyT_one (i := 9) rfl (by kernel_rfl) (by rfl) (fun K hK => ?_)
            refine wp_store_all _ _ _ rfl g9 _ _ (alpA (a.cls ++ b.cls)) rfl rfl q9 (by rw [hAs, arrC_size]) (by rw [hAs]; exact size_alp) (arrC_one _) ?_
            intro yz hq hKz
            have hg3 : w3.heap.size ≤ g9 := hg9l
            have hBz : Below w3.heap.size w3 yz := hBel.trans (hKz.below hBel.size (fun k hk e => by omega))
            refine hK _ _ (fun _ _ => hSof _ (hBz)) ?_
            clear hK K
            try simp only [Act.put, List.setIfInBounds_toArray, List.set_cons_zero, List.set_cons_succ]
            refine wpAnyT_done (by kernel_rfl) ?_ _
            refine NoPanic.normal ?_
            go_wp2_with fail
            go_meet
            exact ⟨g9, rfl, hq, hBz, hg3⟩
          · go_simp
            refine hK _ _ (fun _ _ => hSof _ (hBel.alloc hBel.size _)) ?_
            clear hK K
            try simp only [Act.put, List.setIfInBounds_toArray, List.set_cons_zero, List.set_cons_succ]
            have q9 := World.alloc_heap_new y3 (.cells (arrC fun _ => 0) 81)
            have hne := fun e => Nat.lt_irrefl _ (hO.lt y3.heap.size (Eq.symm e)).2
            have hO := hO.alloc (.cells (arrC fun _ => 0) 81)
            have hg9l := hBel.size
            have hBel := hBel.alloc hBel.size (.cells (arrC fun _ => 0) 81)
            obtain ⟨g9, hg9⟩ : ∃ g, g = y3.heap.size := ⟨_, rfl⟩
            obtain ⟨y4, hy4⟩ : ∃ y, y = y3.alloc (.cells (arrC fun _ => 0) 81) := ⟨_, rfl⟩
            rw [← hy4] at hBel q9 hO ⊢
            rw [← hg9] at q9 hg9l hne ⊢
            clear hy4 hg9
            refine wpAnyT_one (i := 7) rfl (by kernel_rfl) (by rfl) (fun K hK => ?_)
            go_simp
            try simp only [List.nil_append, List.length_append] at *
            have hco := c_refOf P6 c6 (a.cls ++ b.cls) _ y4 hO.readS (two_append (by omega) (by omega))
            simp only [List.length_append] at hco
            refine hco.mono ?_
            rintro e y5 ⟨rfl, hBx⟩
            clear hco
            have q9 := (hBx.block _ (Array.getElem?_eq_some_iff.1 q9).1).trans q9
            have hBel := hBel.trans (hBx.mono hBel.size)
            have hO := hO.below hBx
            clear hBx
            try dsimp only
            refine hK _ _ (fun _ _ => hSof _ (hBel)) ?_
            clear hK K
            try simp only [Act.put, List.setIfInBounds_toArray, List.set_cons_zero, List.set_cons_succ]
            refine wpAnyT_one (i := 9) rfl (by kernel_rfl) (by rfl) (fun K hK => ?_)
            refine wp_store_all _ _ _ rfl g9 _ _ (alpA (a.cls ++ b.cls)) rfl rfl q9 (by rw [hAs, arrC_size]) (by rw [hAs]; exact size_alp) (arrC_one _) ?_
            intro yz hq hKz
            have hg3 : w3.heap.size ≤ g9 := hg9l
            have hBz : Below w3.heap.size w3 yz := hBel.trans (hKz.below hBel.size (fun k hk e => by omega))
            refine hK _ _ (fun _ _ => hSof _ (hBz)) ?_
            clear hK K
            try simp only [Act.put, List.setIfInBounds_toArray, List.set_cons_zero, List.set_cons_succ]
            refine wpAnyT_done (by kernel_rfl) ?_ _
            refine NoPanic.normal ?_
            go_wp2_with fail
            go_meet
            exact ⟨g9, rfl, hq, hBz, hg3⟩
        · go_simp
          refine hK _ _ (fun _ _ => hSof _ (hBel.alloc hBel.size _)) ?_
          clear hK K
          try simp only [Act.put, List.setIfInBounds_toArray, List.set_cons_zero, List.set_cons_succ]
          have q9 := World.alloc_heap_new y2 (.cells (arrC fun _ => 0) 81)
          have hne := fun e => Nat.lt_irrefl _ (hO.lt y2.heap.size (Eq.symm e)).2
          have hO := hO.alloc (.cells (arrC fun _ => 0) 81)
          have hg9l := hBel.size
          have hBel := hBel.alloc hBel.size (.cells (arrC fun _ => 0) 81)
          obtain ⟨g9, hg9⟩ : ∃ g, g = y2.heap.size := ⟨_, rfl⟩
          obtain ⟨y3, hy3⟩ : ∃ y, y = y2.alloc (.cells (arrC fun _ => 0) 81) := ⟨_, rfl⟩
          rw [← hy3] at hBel q9 hO ⊢
          rw [← hg9] at q9 hg9l hne ⊢
          clear hy3 hg9
          refine wpAnyT_one (i := 6) rfl (by kernel_rfl) (by rfl) (fun K hK => ?_)
          refine wp_own_appendS Kref y3 w3.heap.size _ _ 40 75 (.agg (Array.replicate 256 (.int .i64 0))) 2048 rfl Tryz.underlying40 info_ref cells_ref (by decide) (by decide) _ ([] ++ a.cls) b.cls B1 m1 (fun k => w3.heap.size ≤ k) _ rfl rfl (S_below sB hBel) (fun _ _ h => h) hO (fun k hk => Nat.le_trans hBel.size hk) hBel.size (by simp; omega) ?_
          intro v6 y4 hO6 hM hv
          have hBel := Mov.below hBel hM hBel.size (fun k hk => hO.1 k hk)
          have hne' := mov_ne hM (Array.getElem?_eq_some_iff.1 q9).1 hne
          have q9 := hM.heap q9 hne
          have hne := hne'
          clear hne'
          have hO := hO6
          obtain ⟨P6, c6, rfl, _, _, S6⟩ := hO.reads
          clear hO6 hM hv
          refine hK _ _ (fun _ _ => hSof _ (hBel)) ?_
          clear hK K
          try simp only [Act.put, List.setIfInBounds_toArray, List.set_cons_zero, List.set_cons_succ]
          refine wpAnyT_one (i := 7) rfl (by kernel_rfl) (by rfl) (fun K hK => ?_)
          go_simp
          try simp only [List.nil_append, List.length_append] at *
          have hco := c_refOf P6 c6 (a.cls ++ b.cls) _ y4 hO.readS (two_append (by omega) (by omega))
          simp only [List.length_append] at hco
          refine hco.mono ?_
          rintro e y5 ⟨rfl, hBx⟩
          clear hco
          have q9 := (hBx.block _ (Array.getElem?_eq_some_iff.1 q9).1).trans q9
          have hBel := hBel.trans (hBx.mono hBel.size)
          have hO := hO.below hBx
          clear hBx
          try dsimp only
          refine hK _ _ (fun _ _ => hSof _ (hBel)) ?_
          clear hK K
          try simp only [Act.put, List.setIfInBounds_toArray, List.set_cons_zero, List.set_cons_succ]
          refine wpAnyT_one (i := 9) rfl (by kernel_rfl) (by rfl) (fun K hK => ?_)
          refine wp_store_all _ _ _ rfl g9 _ _ (alpA (a.cls ++ b.cls)) rfl rfl q9 (by rw [hAs, arrC_size]) (by rw [hAs]; exact size_alp) (arrC_one _) ?_
          intro yz hq hKz
          have hg3 : w3.heap.size ≤ g9 := hg9l
          have hBz : Below w3.heap.size w3 yz := hBel.trans (hKz.below hBel.size (fun k hk e => by omega))
          refine hK _ _ (fun _ _ => hSof _ (hBz)) ?_
          clear hK K
          try simp only [Act.put, List.setIfInBounds_toArray, List.set_cons_zero, List.set_cons_succ]
          refine wpAnyT_done (by kernel_rfl) ?_ _
          refine NoPanic.normal ?_
          go_wp2_with fail
          go_meet
          exact ⟨g9, rfl, hq, hBz, hg3⟩
      · go_simp
        refine hK _ _ (fun _ _ => hSof _ (hBel.alloc hBel.size _)) ?_
        clear hK K
        try simp only [Act.put, List.setIfInBounds_toArray, List.set_cons_zero, List.set_cons_succ]
        have q9 := World.alloc_heap_new y1 (.cells (arrC fun _ => 0) 81)
        have hne := fun e => Nat.lt_irrefl _ (hO.lt y1.heap.size (Eq.symm e)).2
        have hO := hO.alloc (.cells (arrC fun _ => 0) 81)
        have hg9l := hBel.size
        have hBel := hBel.alloc hBel.size (.cells (arrC fun _ => 0) 81)
        obtain ⟨g9, hg9⟩ : ∃ g, g = y1.heap.size := ⟨_, rfl⟩
        obtain ⟨y2, hy2⟩ : ∃ y, y = y1.alloc (.cells (arrC fun _ => 0) 81) := ⟨_, rfl⟩
        rw [← hy2] at hBel q9 hO ⊢
        rw [← hg9] at q9 hg9l hne ⊢
        clear hy2 hg9
        refine wpAnyT_one (i := 3) rfl (by kernel_rfl) (by rfl) (fun K hK => ?_)
        refine wp_own_appendS Kref y2 w3.heap.size _ _ 40 75 (.agg (Array.replicate 256 (.int .i64 0))) 2048 rfl Tryz.underlying40 info_ref cells_ref (by decide) (by decide) _ [] a.cls A1 k1 (fun k => w3.heap.size ≤ k) _ rfl rfl (S_below sA hBel) (fun _ _ h => h) hO (fun k hk => Nat.le_trans hBel.size hk) hBel.size (by simp; omega) ?_
        intro v3 y3 hO3 hM hv
        have hBel := Mov.below hBel hM hBel.size (fun k hk => hO.1 k hk)
        have hne' := mov_ne hM (Array.getElem?_eq_some_iff.1 q9).1 hne
        have q9 := hM.heap q9 hne
        have hne := hne'
        clear hne'
        have hO := hO3
        obtain ⟨P3, c3, rfl, _, _, S3⟩ := hO.reads
        clear hO3 hM hv
        refine hK _ _ (fun _ _ => hSof _ (hBel)) ?_
        clear hK K
        try simp only [Act.put, List.setIfInBounds_toArray, List.set_cons_zero, List.set_cons_succ]
        refine wpAnyT_one (i := 6) rfl (by kernel_rfl) (by rfl) (fun K hK => ?_)
        refine wp_own_appendS Kref y3 w3.heap.size _ _ 40 75 (.agg (Array.replicate 256 (.int .i64 0))) 2048 rfl Tryz.underlying40 info_ref cells_ref (by decide) (by decide) _ ([] ++ a.cls) b.cls B1 m1 (fun k => w3.heap.size ≤ k) _ rfl rfl (S_below sB hBel) (fun _ _ h => h) hO (fun k hk => Nat.le_trans hBel.size hk) hBel.size (by simp; omega) ?_
        intro v6 y4 hO6 hM hv
        have hBel := Mov.below hBel hM hBel.size (fun k hk => hO.1 k hk)
        have hne' := mov_ne hM (Array.getElem?_eq_some_iff.1 q9).1 hne
        have q9 := hM.heap q9 hne
        have hne := hne'
        clear hne'
        have hO := hO6
        obtain ⟨P6, c6, rfl, _, _, S6⟩ := hO.reads
        clear hO6 hM hv
        refine hK _ _ (fun _ _ => hSof _ (hBel)) ?_
        clear hK K
        try simp only [Act.put, List.setIfInBounds_toArray, List.set_cons_zero, List.set_cons_succ]
        refine wpAnyT_one (i := 7) rfl (by kernel_rfl) (by rfl) (fun K hK => ?_)
        go_simp
        try simp only [List.nil_append, List.length_append] at *
        have hco := c_refOf P6 c6 (a.cls ++ b.cls) _ y4 hO.readS (two_append (by omega) (by omega))
        simp only [List.length_append] at hco
        refine hco.mono ?_
        rintro e y5 ⟨rfl, hBx⟩
        clear hco
        have q9 := (hBx.block _ (Array.getElem?_eq_some_iff.1 q9).1).trans q9
        have hBel := hBel.trans (hBx.mono hBel.size)
        have hO := hO.below hBx
        clear hBx
        try dsimp only
        refine hK _ _ (fun _ _ => hSof _ (hBel)) ?_
        clear hK K
        try simp only [Act.put, List.setIfInBounds_toArray, List.set_cons_zero, List.set_cons_succ]
        refine wpAnyT_one (i := 9) rfl (by kernel_rfl) (by rfl) (fun K hK => ?_)
        refine wp_store_all _ _ _ rfl g9 _ _ (alpA (a.cls ++ b.cls)) rfl rfl q9 (by rw [hAs, arrC_size]) (by rw [hAs]; exact size_alp) (arrC_one _) ?_
        intro yz hq hKz
        have hg3 : w3.heap.size ≤ g9 := hg9l
        have hBz : Below w3.heap.size w3 yz := hBel.trans (hKz.below hBel.size (fun k hk e => by omega))
        refine hK _ _ (fun _ _ => hSof _ (hBz)) ?_
        clear hK K
        try simp only [Act.put, List.setIfInBounds_toArray, List.set_cons_zero, List.set_cons_succ]
        refine wpAnyT_done (by kernel_rfl) ?_ _
        refine NoPanic.normal ?_
        go_wp2_with fail
        go_meet
        exact ⟨g9, rfl, hq, hBz, hg3⟩
    · go_simp
      refine hK _ _ (fun _ _ => hSof _ (hBel.alloc hBel.size _)) ?_
      clear hK K
      try simp only [Act.put, List.setIfInBounds_toArray, List.set_cons_zero, List.set_cons_succ]
      have q9 := World.alloc_heap_new y0 (.cells (arrC fun _ => 0) 81)
      have hg9l := hBel.size
      have hBel := hBel.alloc hBel.size (.cells (arrC fun _ => 0) 81)
      obtain ⟨g9, hg9⟩ : ∃ g, g = y0.heap.size := ⟨_, rfl⟩
      obtain ⟨y1, hy1⟩ : ∃ y, y = y0.alloc (.cells (arrC fun _ => 0) 81) := ⟨_, rfl⟩
      rw [← hy1] at hBel q9 ⊢
      rw [← hg9] at q9 hg9l ⊢
      clear hy1 hg9
      refine wpAnyT_one (i := 0) rfl (by kernel_rfl) (by rfl) (fun K hK => ?_)
      go_simp
      refine hK _ _ (fun _ _ => hSof _ (hBel.alloc hBel.size _)) ?_
      clear hK K
      try simp only [Act.put, List.setIfInBounds_toArray, List.set_cons_zero, List.set_cons_succ]
      have hO := OwnS.fresh Kref 75 y1 w3.heap.size (fun k => w3.heap.size ≤ k) hBel.size hBel.size
      have hne : some g9 ≠ some y1.heap.size := fun e => by injection e with e; have := (Array.getElem?_eq_some_iff.1 q9).1; omega
      have q9 := (Below.heap_alloc y1 (.cells #[] 75) _ (Array.getElem?_eq_some_iff.1 q9).1).trans q9
      have hBel := hBel.alloc hBel.size (.cells #[] 75)
      obtain ⟨y2, hy2⟩ : ∃ y, y = y1.alloc (.cells #[] 75) := ⟨_, rfl⟩
      rw [← hy2] at hBel hO q9 ⊢
      clear hy2
      refine wpAnyT_one (i := 3) rfl (by kernel_rfl) (by rfl) (fun K hK => ?_)
      refine wp_own_appendS Kref y2 w3.heap.size _ _ 40 75 (.agg (Array.replicate 256 (.int .i64 0))) 2048 rfl Tryz.underlying40 info_ref cells_ref (by decide) (by decide) _ [] a.cls A1 k1 (fun k => w3.heap.size ≤ k) _ rfl rfl (S_below sA hBel) (fun _ _ h => h) hO (fun k hk => Nat.le_trans hBel.size hk) hBel.size (by simp; omega) ?_
      intro v3 y3 hO3 hM hv
      have hBel := Mov.below hBel hM hBel.size (fun k hk => hO.1 k hk)
      have hne' := mov_ne hM (Array.getElem?_eq_some_iff.1 q9).1 hne
      have q9 := hM.heap q9 hne
      have hne := hne'
      clear hne'
      have hO := hO3
      obtain ⟨P3, c3, rfl, _, _, S3⟩ := hO.reads
      clear hO3 hM hv
      refine hK _ _ (fun _ _ => hSof _ (hBel)) ?_
      clear hK K
      try simp only [Act.put, List.setIfInBounds_toArray, List.set_cons_zero, List.set_cons_succ]
      refine wpAnyT_one (i := 6) rfl (by kernel_rfl) (by rfl) (fun K hK => ?_)
      refine wp_own_appendS Kref y3 w3.heap.size _ _ 40 75 (.agg (Array.replicate 256 (.int .i64 0))) 2048 rfl Tryz.underlying40 info_ref cells_ref (by decide) (by decide) _ ([] ++ a.cls) b.cls B1 m1 (fun k => w3.heap.size ≤ k) _ rfl rfl (S_below sB hBel) (fun _ _ h => h) hO (fun k hk => Nat.le_trans hBel.size hk) hBel.size (by simp; omega) ?_
      intro v6 y4 hO6 hM hv
      have hBel := Mov.below hBel hM hBel.size (fun k hk => hO.1 k hk)
      have hne' := mov_ne hM (Array.getElem?_eq_some_iff.1 q9).1 hne
      have q9 := hM.heap q9 hne
      have hne := hne'
      clear hne'
      have hO := hO6
      obtain ⟨P6, c6, rfl, _, _, S6⟩ := hO.reads
      clear hO6 hM hv
      refine hK _ _ (fun _ _ => hSof _ (hBel)) ?_
      clear hK K
      try simp only [Act.put, List.setIfInBounds_toArray, List.set_cons_zero, List.set_cons_succ]
      refine wpAnyT_one (i := 7) rfl (by kernel_rfl) (by rfl) (fun K hK => ?_)
      go_simp
      try simp only [List.nil_append, List.length_append] at *
      have hco := c_refOf P6 c6 (a.cls ++ b.cls) _ y4 hO.readS (two_append (by omega) (by omega))
      simp only [List.length_append] at hco
      refine hco.mono ?_
      rintro e y5 ⟨rfl, hBx⟩
      clear hco
      have q9 := (hBx.block _ (Array.getElem?_eq_some_iff.1 q9).1).trans q9
      have hBel := hBel.trans (hBx.mono hBel.size)
      have hO := hO.below hBx
      clear hBx
      try dsimp only
      refine hK _ _ (fun _ _ => hSof _ (hBel)) ?_
      clear hK K
      try simp only [Act.put, List.setIfInBounds_toArray, List.set_cons_zero, List.set_cons_succ]
      refine wpAnyT_one (i := 9) rfl (by kernel_rfl) (by rfl) (fun K hK => ?_)
      refine wp_store_all _ _ _ rfl g9 _ _ (alpA (a.cls ++ b.cls)) rfl rfl q9 (by rw [hAs, arrC_size]) (by rw [hAs]; exact size_alp) (arrC_one _) ?_
      intro yz hq hKz
      have hg3 : w3.heap.size ≤ g9 := hg9l
      have hBz : Below w3.heap.size w3 yz := hBel.trans (hKz.below hBel.size (fun k hk e => by omega))
      refine hK _ _ (fun _ _ => hSof _ (hBz)) ?_
      clear hK K
      try simp only [Act.put, List.setIfInBounds_toArray, List.set_cons_zero, List.set_cons_succ]
      refine wpAnyT_done (by kernel_rfl) ?_ _
      refine NoPanic.normal ?_
      go_wp2_with fail
      go_meet
      exact ⟨g9, rfl, hq, hBz, hg3⟩
  case rest =>
    obtain ⟨g, rfl, hg, hBx, hgl⟩ := hcut
    have HT4 := Lib.hid (And.intro h0 (And.intro h1 h2))
    have HT5 := Lib.hid (And.intro g0 (And.intro g1 g2))
    clear sA sB hA3 hB3' h0 h1 h2 g0 g1 g2 hz30 hz31 hz
    have hleast := c_leasts (a.cls ++ b.cls) wc
    go_wp2_with (first
      | (refine wpList_load_row rfl _ _ rfl _ rfl _ (alpA (a.cls ++ b.cls)) _ _ hg Tryz.underlying81 rfl (by rw [hAs]; exact size_alp) ?_)
      | (go_at_call 42; refine hleast.mono ?_; rintro e w4 ⟨vL, rfl, hOL, hBL⟩; obtain ⟨AL, cL, rfl, _, _, SL⟩ := hOL.reads))
    refine wp_name fun W5 hW5 => ?_
    have hnil : W5.heap[w4.heap.size]? = some (.cells #[.slice none 0 0, .slice none 0 0, .slice none 0 0] 42 (0, 0)) := by rw [← hW5]; exact World.alloc_heap_new w4 _
    have hB45 : Below w4.heap.size w4 W5 := by rw [← hW5]; exact (Below.refl _ _).alloc (Nat.le_refl _) _
    have hz5 : W5.heap.size = w4.heap.size + 1 := by rw [← hW5]; simp
    clear hW5 hOL
    have qg := (hB45.block _ (Nat.lt_of_lt_of_le (Array.getElem?_eq_some_iff.1 hg).1 hBL.size)).trans ((hBL.block _ (Array.getElem?_eq_some_iff.1 hg).1).trans hg)
    have hgz : g < w4.heap.size := Nat.lt_of_lt_of_le (Array.getElem?_eq_some_iff.1 hg).1 hBL.size
    have SL5 := (S_below SL.bound hB45).mono (G := fun j => j < w4.heap.size) fun _ h => h.2
    have hB35 : Below w3.heap.size w3 W5 := hBx.trans ((hBL.trans (hB45.mono hBL.size)).mono hBx.size)
    have hsl : (intsOf (leastsN (a.cls ++ b.cls))).length = (leastsN (a.cls ++ b.cls)).length := by simp
    have hll := leasts_le (a.cls ++ b.cls)
    have hrl : (refClasses (a.cls ++ b.cls)).length = (leastsN (a.cls ++ b.cls)).length := by simp [refClasses]
    have hz4 : w4.heap.size < W5.heap.size := by omega
    clear hg SL hleast
    go_loopg [14] ((leastsN (a.cls ++ b.cls)).length + 1) (fun gk vk wr => ∃ (k : Nat) (vC : Value), vk = .int .i64 (k : Int) ∧ k ≤ (leastsN (a.cls ++ b.cls)).length ∧ gk + k = (leastsN (a.cls ++ b.cls)).length + 1 ∧
      OwnS Kref 75 wr W5.heap.size (fun j => W5.heap.size ≤ j) vC ((refClasses (a.cls ++ b.cls)).take k) ∧ wr.heap[w4.heap.size]? = some (.cells #[vC, .slice none 0 0, .slice none 0 0] 42 (0, 0)) ∧ Kp (fun j => j = w4.heap.size) W5 wr)
    case atStart => exact ⟨0, .slice none 0 0, rfl, by omega, by omega, OwnS.nil _ _ _ _ _, hnil, Kp.refl _ _⟩
    case round =>
      obtain ⟨k, vC, rfl, hk, hgk, hC, hbo, hKp⟩ := hrel
      obtain ⟨AC, cC, rfl, _, _, _⟩ := hC.reads
      have HG := Lib.hid hgk
      have hk0 : (0 : Int) ≤ k := by omega
      have HC := Lib.hid hC
      have HBO := Lib.hid hbo
      have HKp := Lib.hid hKp
      have HQG := Lib.hid qg
      clear hgk hC hKp qg hnil
      by_cases hlt : k < (leastsN (a.cls ++ b.cls)).length
      · have hlt' : (k : Int) < (leastsN (a.cls ++ b.cls)).length := by omega
        have hst := fun W' => c_refSet (a.cls ++ b.cls) k (leastsN (a.cls ++ b.cls))[k] W' (List.getElem?_eq_getElem hlt)
        have htk : (refClasses (a.cls ++ b.cls)).take (k + 1) = (refClasses (a.cls ++ b.cls)).take k ++ [clsN (a.cls ++ b.cls) (leastsN (a.cls ++ b.cls))[k]] := by
          rw [List.take_succ_eq_append_getElem (by rw [hrl]; exact hlt)]
          simp [refClasses]
        have htl : ((refClasses (a.cls ++ b.cls)).take k).length ≤ 256 := by rw [List.length_take]; omega
        have HTK := Lib.hid htk
        generalize clsN (a.cls ++ b.cls) (leastsN (a.cls ++ b.cls))[k] = ck at *
        generalize (refClasses (a.cls ++ b.cls)).take k = tk at *
        have hbs := run_one_ref ck
        clear htk
        have hqr := HKp.out.heap HQG.out (by omega)
        obtain ⟨SS, hSS⟩ : ∃ S : World → Prop, S = fun w' => w'.heap[w4.heap.size]? = some (.cells #[.slice AC tk.length cC, .slice none 0 0, .slice none 0 0] 42 (0, 0)) ∧ w'.heap[g]? = some (.cells (alpA (a.cls ++ b.cls)) 81 (0, 0)) := ⟨_, rfl⟩
        have hSm : ∀ W' : World, W'.heap[w4.heap.size]? = some (.cells #[.slice AC tk.length cC, .slice none 0 0, .slice none 0 0] 42 (0, 0)) → W'.heap[g]? = some (.cells (alpA (a.cls ++ b.cls)) 81 (0, 0)) → SS W' := fun W' h1 h2 => by rw [hSS]; exact ⟨h1, h2⟩
        have hSi : ∀ w', SS w' → w'.heap[w4.heap.size]? = some (.cells #[.slice AC tk.length cC, .slice none 0 0, .slice none 0 0] 42 (0, 0)) ∧ w'.heap[g]? = some (.cells (alpA (a.cls ++ b.cls)) 81 (0, 0)) := fun w' h => by rw [hSS] at h; exact h
        have hS : SS wr.drew := hSm _ HBO.out hqr
        clear hSS hqr
        go_wp2
        refine wp_region_noPanic (wp_region_T SS [1, 2] (by kernel_rfl) ?_)
        refine wpAnyT_takeY (i := 0) (v := ?v0_5) rfl (by kernel_rfl) (by kernel_rfl) (by kernel_rfl) (fun _ _ _ h => h) (by rfl) ?hy0_5 ?r0_5
        case hy0_5 => (intro w; go_simp; try (with_reducible rfl))
        case r0_5 =>
        try simp only [Act.put, List.setIfInBounds_toArray, List.set_cons_zero, List.set_cons_succ]
        refine wpAnyT_takeY (i := 3) (v := ?v3_6) rfl (by kernel_rfl) (by kernel_rfl) (by kernel_rfl) (fun _ _ _ h => h) (by rfl) ?hy3_6 ?r3_6
        case hy3_6 => (intro w; go_simp; try (with_reducible rfl))
        case r3_6 =>
        try simp only [Act.put, List.setIfInBounds_toArray, List.set_cons_zero, List.set_cons_succ]
        refine wpAnyT_take (i := 1) (v := ?v1_7) rfl rfl (by kernel_rfl) (by kernel_rfl) (by kernel_rfl) (fun _ _ _ h => h) (by rfl) hS ?hy1_7 ?r1_7
        case hy1_7 => (intro w hSw; obtain ⟨e0, _, _⟩ := cells3 (hSi _ hSw).1; (try dsimp only at hSw); go_simp; try (with_reducible rfl))
        case r1_7 =>
        try simp only [Act.put, List.setIfInBounds_toArray, List.set_cons_zero, List.set_cons_succ]
        refine wpAnyT_take (i := 2) (v := .agg (alpA (a.cls ++ b.cls))) rfl rfl (by kernel_rfl) (by kernel_rfl) (by kernel_rfl) (fun _ _ _ h => h) (by rfl) hS (fun w hSw => exec_load_mid _ _ rfl g 0 rfl (alpA (a.cls ++ b.cls)).toList _ (range_row (hSi _ hSw).2) Tryz.underlying81 rfl (by rw [Array.length_toList, hAs]; exact size_alp)) ?_
        try simp only [Act.put, List.setIfInBounds_toArray, List.set_cons_zero, List.set_cons_succ]
        refine wpAnyT_one (i := 4) rfl (by kernel_rfl) (by rfl) (fun K hK => ?_)
        go_simp
        refine (hst wr.drew).mono ?_
        rintro e w6 ⟨rfl, hB6⟩
        try dsimp only
        have hKp6 : Kp (fun j => j = w4.heap.size) W5 w6 := HKp.out.drew.trans (.of_below hB6)
        have hbo6 : w6.heap[w4.heap.size]? = some (.cells #[.slice AC tk.length cC, .slice none 0 0, .slice none 0 0] 42 (0, 0)) := (hB6.block _ (Array.getElem?_eq_some_iff.1 HBO.out).1).trans HBO.out
        have hC6 := (HC.out.step (w1 := wr.drew) fun _ _ _ => rfl).below hB6
        have hqg6 := hKp6.heap HQG.out (by omega)
        refine hK _ _ (fun _ _ => hSm _ hbo6 hqg6) ?_
        have HK6 := Lib.hid hKp6
        have HBO6 := Lib.hid hbo6
        have HC6 := Lib.hid hC6
        have HG6 := Lib.hid hqg6
        clear hKp6 hbo6 hC6 hqg6
        clear hK K
        try simp only [Act.put, List.setIfInBounds_toArray, List.set_cons_zero, List.set_cons_succ]
        refine wpAnyT_one (i := 5) rfl (by kernel_rfl) (by rfl) (fun K hK => ?_)
        refine wp_build_row 40 _ rfl (.agg (setA ck)) _ (by rfl) (hbs _) ?_
        refine hK _ _ (fun _ _ => hSm _ ((Below.heap_alloc w6 _ _ (Array.getElem?_eq_some_iff.1 HBO6.out).1).trans HBO6.out) ((Below.heap_alloc w6 _ _ (Array.getElem?_eq_some_iff.1 HG6.out).1).trans HG6.out)) ?_
        clear hK K
        try simp only [Act.put, List.setIfInBounds_toArray, List.set_cons_zero, List.set_cons_succ]
        refine wpAnyT_one (i := 6) rfl (by kernel_rfl) (by rfl) (fun K hK => ?_)
        refine wp_own_appendS Kref (w6.alloc (.cells (setA ck) 75)) W5.heap.size _ _ 40 75 (.agg (Array.replicate 256 (.int .i64 0))) 2048 rfl Tryz.underlying40 info_ref cells_ref (by decide) (by decide) (.slice AC tk.length cC) tk [ck] (some ⟨w6.heap.size, 0, none⟩) 1 (fun j => W5.heap.size ≤ j) (fun _ => True) rfl rfl
          (box_S Kref w6 75 (setA ck).toList ck _ rfl trivial) (fun _ _ h => h) (HC6.out.alloc _) (fun j hj => ?_) ?_ (by simp; omega) ?_
        · have := HK6.out.size; simp at hj; omega
        · have := HK6.out.size; simp; omega
        intro v9 w9 hO9 hM9 hv9
        obtain ⟨g9, c9, rfl⟩ := hv9 (by simp)
        have hne9 : some w4.heap.size ≠ (Value.slice AC tk.length cC).ownBlock := fun e => by have := (HC.out.lt _ e.symm).1; omega
        have hne9' : some g ≠ (Value.slice AC tk.length cC).ownBlock := fun e => by have := (HC.out.lt _ e.symm).1; omega
        have hbo9 := hM9.heap ((Below.heap_alloc w6 (.cells (setA ck) 75) _ (Array.getElem?_eq_some_iff.1 HBO6.out).1).trans HBO6.out) hne9
        have hqg9 := hM9.heap ((Below.heap_alloc w6 (.cells (setA ck) 75) _ (Array.getElem?_eq_some_iff.1 HG6.out).1).trans HG6.out) hne9'
        have hK9 : Kp (fun j => j = w4.heap.size) W5 w9 := (HK6.out.alloc _).mov_after hM9 fun j hj => .inr (HC.out.1 j hj)
        refine hK _ _ (fun _ _ => hSm _ hbo9 hqg9) ?_
        have e9 : (tk ++ [ck]).length = tk.length + 1 := by simp
        rw [e9] at hO9
        obtain ⟨f0, f1, f2⟩ := cells3 hbo9
        have f3 : ∀ j, w9.frozen? ⟨w4.heap.size, j, none⟩ = false := fun j => frozen_of_row w9 _ j _ _ hbo9
        have HO9 := Lib.hid hO9
        have HB9 := Lib.hid hbo9
        have HK9 := Lib.hid hK9
        clear hO9 hM9 hbo9 hqg9 hK9 hne9 hne9'
        clear hK K
        try simp only [Act.put, List.setIfInBounds_toArray, List.set_cons_zero, List.set_cons_succ]
        refine wpAnyT_takeY (i := 7) (v := ?v7_8) rfl (by kernel_rfl) (by kernel_rfl) (by kernel_rfl) (fun _ _ _ h => h) (by rfl) ?hy7_8 ?r7_8
        case hy7_8 => (intro w; go_simp; try (with_reducible rfl))
        case r7_8 =>
        try simp only [Act.put, List.setIfInBounds_toArray, List.set_cons_zero, List.set_cons_succ]
        refine wpAnyT_one (i := 8) rfl (by kernel_rfl) (by rfl) (fun K hK => ?_)
        go_simp
        refine hK _ _ (no_need (by kernel_rfl)) ?_
        clear hK K
        try simp only [Act.put, List.setIfInBounds_toArray, List.set_cons_zero, List.set_cons_succ]
        refine wpAnyT_done (by kernel_rfl) ?_ _
        refine NoPanic.normal ?_
        clear f0 f1 f2 f3
        go_wp2
        go_roundg (gk - 1)
        case measure => have := HG.out; omega
        case rel =>
          refine ⟨k + 1, _, by go_num, by omega, by have := HG.out; omega, ?_, by simpa using setCell_heap w9 w4.heap.size 0 _ _ _ (.slice (some ⟨g9, 0, none⟩) (tk.length + 1) c9) HB9.out, HK9.out.setCell ⟨w4.heap.size, 0, none⟩ rfl _⟩
          rw [HTK.out]
          exact HO9.out.step fun j hj _ => Below.heap_setCell _ _ _ j (by show j ≠ w4.heap.size; omega)
      · obtain rfl : k = (leastsN (a.cls ++ b.cls)).length := by omega
        have hge : ¬ (((leastsN (a.cls ++ b.cls)).length : Nat) : Int) < (leastsN (a.cls ++ b.cls)).length := by omega
        have hfl : (refClasses (a.cls ++ b.cls)).take (leastsN (a.cls ++ b.cls)).length = refClasses (a.cls ++ b.cls) := List.take_of_length_le (by rw [hrl]; omega)
        rw [hfl] at HC HBO
        clear hfl HG
        go_wp2
        refine wp_name fun W6 hW6 => ?_
        obtain ⟨Wc, rfl⟩ : ∃ x : World, x = wr := ⟨_, rfl⟩
        have hO0 : OutR 42 3 36 w4.heap.size (.slice AC (refClasses (a.cls ++ b.cls)).length cC) Wc [0] [0] [] [] (.slice (some ⟨Wc.heap.size, 0, none⟩) 1 1) (.slice (some ⟨Wc.heap.size + 1, 0, none⟩) 1 1) (.slice none 0 0) (.slice none 0 0) W6 := by
          have hl0 : w4.heap.size < Wc.heap.size := by have := HKp.out.size; omega
          refine ⟨?_, ?_, ?_, OwnS.nil _ _ _ _ _, OwnS.nil _ _ _ _ _, ?_, hl0, ?_⟩
          · rw [← hW6]; exact ((Kp.refl _ _).alloc _).alloc _
          · rw [← hW6]; exact (OwnS.box Kint 3 Wc [.int .i64 0] 0 Wc.heap.size (fun j => Wc.heap.size ≤ j) (Nat.le_refl _) (Nat.le_refl _) ⟨rfl, by unfold inI64; omega⟩).alloc _
          · rw [← hW6]
            have := OwnS.box Kint 3 (Wc.alloc (.cells #[.int .i64 0] 3)) [.int .i64 0] 0 Wc.heap.size (fun j => Wc.heap.size ≤ j) (by simp) (by simp) ⟨rfl, by unfold inI64; omega⟩
            simpa using this
          · rw [← hW6]; exact (Below.heap_alloc _ _ _ (by simp; omega)).trans ((Below.heap_alloc _ _ _ (by omega)).trans HBO.out)
          · intro k hk e; simp [Value.ownBlock] at hk e; omega
        have HB3c := Lib.hid (hB35.trans (HKp.out.below hB35.size (fun j hj e => by have := hBL.size; have := hBx.size; omega)))
        have hzc : w3.heap.size ≤ Wc.heap.size := HB3c.out.size
        have SLc := S_keep SL5 HKp.out fun j hj _ e => by omega
        have HC := Lib.hid HC.out
        obtain ⟨HA0, HB0⟩ := And.intro HA.out HB.out
        have hfu : (fuel.toNat : Int) = fuel := Int.toNat_of_nonneg (by omega)
        have hnr := fun p => nxt_ref HA0 HB0 p
        have hal : (allB a b).length = (leastsN (a.cls ++ b.cls)).length := by rw [all_ref HA0 HB0, hrl]
        have HNR := Lib.hid hnr
        have HAL := Lib.hid hal
        have SLC := Lib.hid SLc
        have hz34 : w3.heap.size ≤ w4.heap.size := Nat.le_trans hBx.size hBL.size
        clear hnr hal hW6 SL5 SLc HKp HBO HQG hB35 hB45 hBL hBx
        go_loopg [15, 16, 17] (fuel.toNat + 1) (fun gk vL vR vs wr => ∃ (st : OutS) (vN vM : Value), vs = .int .i64 (st.next.length : Int) ∧ outRun a b op fuel.toNat (allB a b) (fuel.toNat + 1) ⟨[(0, 0)], [], []⟩ = outRun a b op fuel.toNat (allB a b) gk st ∧
          gk + st.next.length = fuel.toNat + 1 ∧ st.todo.length ≤ fuel.toNat ∧ st.next.length ≤ st.todo.length ∧ st.marks.length = st.next.length ∧ (∀ p ∈ st.todo, p.1 < a.next.length ∧ p.2 < b.next.length) ∧
          OutR 42 3 36 w4.heap.size (.slice AC (refClasses (a.cls ++ b.cls)).length cC) Wc (st.todo.map fun p => (p.1 : Int)) (st.todo.map fun p => (p.2 : Int)) st.next st.marks vL vR vN vM wr)
        case atStart =>
          have h1 := (right_len HA0).1
          have h2 := (right_len HB0).1
          exact ⟨⟨[(0, 0)], [], []⟩, _, _, rfl, rfl, by simp, by simp; omega, by simp, rfl, fun p hp => by simp at hp; subst hp; exact ⟨by omega, by omega⟩, hO0⟩
        case round =>
          obtain ⟨st, vN, vM, rfl, hrun, hg, htl, hnt, hml, hrange, hOut⟩ := hrel
          obtain ⟨PL, cL', rfl, _, _, _⟩ := hOut.ol.reads
          obtain ⟨PR, cR', rfl, _, _, _⟩ := hOut.or.reads
          obtain ⟨PN, cN, rfl, _, _, _⟩ := hOut.on.reads
          obtain ⟨PM, cM, rfl, _, _, _⟩ := hOut.om.reads
          simp only [List.length_map] at hOut ⊢
          have HG := Lib.hid hg
          have HR := Lib.hid hrun
          have HML := Lib.hid hml
          have HRg := Lib.hid hrange
          have HO := Lib.hid hOut
          have hs0 : (0 : Int) ≤ st.next.length := by omega
          clear hg hrun hml hrange hOut hO0
          by_cases hlt : st.next.length < st.todo.length
          · have hlt' : (st.next.length : Int) < st.todo.length := by omega
            have hpr := HRg.out _ (List.getElem_mem hlt)
            have hpd : st.todo.getD st.next.length (0, 0) = st.todo[st.next.length] := by simp [List.getD_eq_getElem?_getD, List.getElem?_eq_getElem hlt]
            have hpg : st.todo[st.next.length]? = some st.todo[st.next.length] := List.getElem?_eq_getElem hlt
            generalize st.todo[st.next.length] = p at *
            obtain ⟨pa, pb⟩ := p
            dsimp only at hpr
            have HPD := Lib.hid hpd
            have HPG := Lib.hid hpg
            clear hpd hpg
            obtain ⟨Wo, rfl⟩ : ∃ x : World, x = wr := ⟨_, rfl⟩
            obtain ⟨go0, rfl⟩ : ∃ x : Nat, x = gk := ⟨_, rfl⟩
            go_wp2
            go_loopg [15, 16, 18, 19] ((leastsN (a.cls ++ b.cls)).length + 1) (fun gk vL vR vX i wr => ∃ (k : Nat) (t2 : List PP) (X : List Int), i = .int .i64 (k : Int) ∧ k ≤ (leastsN (a.cls ++ b.cls)).length ∧ gk + k = (leastsN (a.cls ++ b.cls)).length + 1 ∧
              InR 3 Wc.heap.size (Value.slice PL st.todo.length cL').ownBlock (Value.slice PR st.todo.length cR').ownBlock Wo (t2.map fun p => (p.1 : Int)) (t2.map fun p => (p.2 : Int)) X vL vR vX wr ∧
              inAll fuel.toNat (((leastsN (a.cls ++ b.cls)).map (nxtM a b (pa, pb))).drop k) (t2, X) = inAll fuel.toNat ((leastsN (a.cls ++ b.cls)).map (nxtM a b (pa, pb))) (st.todo, []) ∧
              X.length = k ∧ t2.length ≤ fuel.toNat ∧ st.todo.length ≤ t2.length ∧ (∀ p ∈ t2, p.1 < a.next.length ∧ p.2 < b.next.length) ∧ t2[st.next.length]? = some (pa, pb))
            case atStart => exact ⟨0, st.todo, [], rfl, Nat.zero_le _, by omega, HO.out.start, rfl, rfl, htl, Nat.le_refl _, HRg.out, HPG.out⟩
            case round =>
              obtain ⟨k, t2, X, rfl, hk, hgk, hI, hin, hXl, htl2, ht0, hrg2, hpx⟩ := hrel
              obtain ⟨QL, dL, rfl, _, _, _⟩ := hI.ol.reads
              obtain ⟨QR, dR, rfl, _, _, _⟩ := hI.or.reads
              obtain ⟨QX, dX, rfl, _, _, _⟩ := hI.ox.reads
              simp only [List.length_map] at hI ⊢
              have hBo : Below w3.heap.size w3 Wo := HB3c.out.trans (HO.out.kp.below hzc (fun j hj e => by omega))
              have hBr : Below w3.heap.size w3 wr := hBo.trans (hI.kp.below hBo.size (fun j hj e => by
                rcases e with e | e
                · have := (HO.out.ol.lt _ e.symm).1; omega
                · have := (HO.out.or.lt _ e.symm).1; omega))
              have hBwr := hBw3.trans (hBr.mono hBw3.size)
              have HI := Lib.hid hI
              have HGk := Lib.hid hgk
              have HIn := Lib.hid hin
              have HXl := Lib.hid hXl
              have HRg2 := Lib.hid hrg2
              have HPX := Lib.hid hpx
              have hk0 : (0 : Int) ≤ k := by omega
              clear hgk hin hXl hrg2 hpx
              by_cases hkl : k < (leastsN (a.cls ++ b.cls)).length
              · have hkl' : (k : Int) < (leastsN (a.cls ++ b.cls)).length := by omega
                have hsl2 : st.next.length < t2.length := by omega
                have hsl3 : (st.next.length : Int) < t2.length := by omega
                have hmm : (leastsN (a.cls ++ b.cls))[k] < 256 := (mem_leasts.1 (List.getElem_mem hkl)).1
                have hdrop := qs_drop (nxtM a b (pa, pb)) (leastsN (a.cls ++ b.cls)) k hkl
                obtain ⟨bl, ol, rfl, hbl, _, cl, _⟩ := S_int SLC.out (i := k) (by rw [hsl]; exact hkl)
                have hge : (intsOf (leastsN (a.cls ++ b.cls)))[k]'(by rw [hsl]; exact hkl) = ((leastsN (a.cls ++ b.cls))[k] : Int) := by simp [intsOf]
                rw [hge] at cl
                generalize (leastsN (a.cls ++ b.cls))[k] = m at *
                have clo := HO.out.kp.cell cl (by omega)
                have clr := hI.kp.cell clo (fun e => by
                  have := HO.out.hl
                  rcases e with e | e
                  · have := (HO.out.ol.lt _ e.symm).1; omega
                  · have := (HO.out.or.lt _ e.symm).1; omega)
                have hm0 : (0 : Int) ≤ m := by omega
                have hm1 : (m : Int) < 256 := by omega
                obtain ⟨ya, na0, na1, na2, na3, na4⟩ := nxt_lookM HA0 hpr.1 hmm
                obtain ⟨yb, nb0, nb1, nb2, nb3, nb4⟩ := nxt_lookM HB0 hpr.2 hmm
                have hq : nxtM a b (pa, pb) m = (ya, yb) := Prod.ext na3.symm nb3.symm
                rw [hq] at hdrop
                obtain ⟨hra1, _⟩ := right_row HA0 hpr.1
                obtain ⟨hrb1, _⟩ := right_row HB0 hpr.2
                have hta := ra.t.below hBwr
                have htb := rb.t.below hBwr
                obtain ⟨b5, o5, B5, d5, e5a, _, _, c3A, _, _, t5⟩ := S_slice hta.t2 hpr.1
                obtain ⟨b7, o7, e7a, _, _, c6A, hi6A⟩ := S_int t5 (i := clsOf a.cls m) (by rw [hra1]; exact na0)
                obtain ⟨b8, o8, B8, d8, e8a, _, _, c3B, _, _, t8⟩ := S_slice htb.t2 hpr.2
                obtain ⟨b9, o9, e9a, _, _, c6B, hi6B⟩ := S_int t8 (i := clsOf b.cls m) (by rw [hrb1]; exact nb0)
                obtain rfl : A2 = some ⟨b5, o5, none⟩ := e5a
                obtain rfl : B2 = some ⟨b8, o8, none⟩ := e8a
                subst e7a e9a
                have hya : a.next[pa][clsOf a.cls m]'(by rw [hra1]; exact na0) = (ya : Int) := by
                  rw [List.getElem?_eq_getElem (by rw [hra1]; exact na0)] at na2; exact Option.some.inj na2
                have hyb : b.next[pb][clsOf b.cls m]'(by rw [hrb1]; exact nb0) = (yb : Int) := by
                  rw [List.getElem?_eq_getElem (by rw [hrb1]; exact nb0)] at nb2; exact Option.some.inj nb2
                rw [hya] at c6A
                rw [hyb] at c6B
                rw [hra1] at c3A
                rw [hrb1] at c3B
                have hp2 : t2[st.next.length] = (pa, pb) := by
                  have := HPX.out
                  rw [List.getElem?_eq_getElem hsl2] at this; exact Option.some.inj this
                obtain ⟨bL, oL, rfl, _, _, cLr, _⟩ := S_int hI.ol.readS (i := st.next.length) (by simpa using hsl2)
                obtain ⟨bR, oR, rfl, _, _, cRr, _⟩ := S_int hI.or.readS (i := st.next.length) (by simpa using hsl2)
                rw [List.getElem_map, hp2] at cLr cRr
                dsimp only at cLr cRr
                have hB0r : Below w3.heap.size w3 wr := hBr
                obtain ⟨x0, x1, x2⟩ := HT4.out
                obtain ⟨x3, x4, x5⟩ := HT5.out
                have c0A := bcellS hBr x0
                have c1A := bcellS hBr x1
                have c2A := bcellS hBr x2
                have y0 := bcellS hBr x3
                have y1 := bcellS hBr x4
                have y2 := bcellS hBr x5
                have c4A := clr
                have c5A := cLr
                have hclA := fun W' (hW' : Below wr.heap.size wr W') => c_refClass A1 (some ⟨b5, o5, none⟩) A3 a.cls.length a.next.length a.marks.length k1 k2 k3 a.cls m _ W' (S_below hta.t1 hW') rfl hmm na0 (by omega)
                have hclB := fun W' (hW' : Below wr.heap.size wr W') => c_refClass B1 (some ⟨b8, o8, none⟩) B3 b.cls.length b.next.length b.marks.length m1 m2 m3 b.cls m _ W' (S_below htb.t1 hW') rfl hmm nb0 (by omega)
                have hwm : IntKind.u8.wrap (m : Int) = m := by simp [IntKind.wrap, IntKind.bits, IntKind.signed]; omega
                have hca0 : (0 : Int) ≤ clsOf a.cls m := by omega
                have hca1 : (clsOf a.cls m : Int) < a.cls.length := by omega
                have hcb0 : (0 : Int) ≤ clsOf b.cls m := by omega
                have hcb1 : (clsOf b.cls m : Int) < b.cls.length := by omega
                have hpa0 : (0 : Int) ≤ pa := by omega
                have hpa1 : (pa : Int) < a.next.length := by omega
                have hpb0 : (0 : Int) ≤ pb := by omega
                have hpb1 : (pb : Int) < b.next.length := by omega
                have hIn2 := HIn.out
                rw [hdrop] at hIn2
                have HIn2 := Lib.hid hIn2
                have HN4 := Lib.hid (And.intro na4 nb4)
                clear hi6A hi6B hIn2 HIn hdrop hq na1 na2 na3 nb1 nb2 nb3 hya hyb t5 t8 hta htb hra1 hrb1 na0 nb0 x0 x1 x2 x3 x4 x5 hge cl clo hp2 na4 nb4 hI
                generalize clsOf a.cls m = ca at *
                generalize clsOf b.cls m = cb at *
                obtain ⟨SSA, hSSA⟩ : ∃ S : World → Prop, S = fun w' => Below wr.heap.size wr w' := ⟨_, rfl⟩
                have hSofA : ∀ W', Below wr.heap.size wr W' → SSA W' := fun W' h => by rw [hSSA]; exact h
                have hSiA : ∀ W', SSA W' → Below wr.heap.size wr W' := fun W' h => by rw [hSSA] at h; exact h
                have hSA : SSA wr.drew := hSofA _ (Below.refl _ _).drew
                clear hSSA
                go_wp2
                refine wp_region_noPanic (wp_region_T SSA [1, 5, 7, 8, 12, 16] (by kernel_rfl) ?_)
                refine wpAnyT_takeY (i := 0) (v := ?v0_9) rfl (by kernel_rfl) (by kernel_rfl) (by kernel_rfl) (fun _ _ _ h => h) (by rfl) ?hy0_9 ?r0_9
                case hy0_9 => (intro w; go_simp; try (with_reducible rfl))
                case r0_9 =>
                try simp only [Act.put, List.setIfInBounds_toArray, List.set_cons_zero, List.set_cons_succ]
                refine wpAnyT_takeY (i := 2) (v := ?v2_10) rfl (by kernel_rfl) (by kernel_rfl) (by kernel_rfl) (fun _ _ _ h => h) (by rfl) ?hy2_10 ?r2_10
                case hy2_10 => (intro w; go_simp; try (with_reducible rfl))
                case r2_10 =>
                try simp only [Act.put, List.setIfInBounds_toArray, List.set_cons_zero, List.set_cons_succ]
                refine wpAnyT_takeY (i := 3) (v := ?v3_11) rfl (by kernel_rfl) (by kernel_rfl) (by kernel_rfl) (fun _ _ _ h => h) (by rfl) ?hy3_11 ?r3_11
                case hy3_11 => (intro w; go_simp; try (with_reducible rfl))
                case r3_11 =>
                try simp only [Act.put, List.setIfInBounds_toArray, List.set_cons_zero, List.set_cons_succ]
                refine wpAnyT_takeY (i := 4) (v := ?v4_12) rfl (by kernel_rfl) (by kernel_rfl) (by kernel_rfl) (fun _ _ _ h => h) (by rfl) ?hy4_12 ?r4_12
                case hy4_12 => (intro w; go_simp; try (with_reducible rfl))
                case r4_12 =>
                try simp only [Act.put, List.setIfInBounds_toArray, List.set_cons_zero, List.set_cons_succ]
                refine wpAnyT_takeY (i := 9) (v := ?v9_13) rfl (by kernel_rfl) (by kernel_rfl) (by kernel_rfl) (fun _ _ _ h => h) (by rfl) ?hy9_13 ?r9_13
                case hy9_13 => (intro w; go_simp; try (with_reducible rfl))
                case r9_13 =>
                try simp only [Act.put, List.setIfInBounds_toArray, List.set_cons_zero, List.set_cons_succ]
                refine wpAnyT_takeY (i := 10) (v := ?v10_14) rfl (by kernel_rfl) (by kernel_rfl) (by kernel_rfl) (fun _ _ _ h => h) (by rfl) ?hy10_14 ?r10_14
                case hy10_14 => (intro w; go_simp; try (with_reducible rfl))
                case r10_14 =>
                try simp only [Act.put, List.setIfInBounds_toArray, List.set_cons_zero, List.set_cons_succ]
                refine wpAnyT_takeY (i := 11) (v := ?v11_15) rfl (by kernel_rfl) (by kernel_rfl) (by kernel_rfl) (fun _ _ _ h => h) (by rfl) ?hy11_15 ?r11_15
                case hy11_15 => (intro w; go_simp; try (with_reducible rfl))
                case r11_15 =>
                try simp only [Act.put, List.setIfInBounds_toArray, List.set_cons_zero, List.set_cons_succ]
                refine wpAnyT_take (i := 1) (v := ?v1_16) rfl rfl (by kernel_rfl) (by kernel_rfl) (by kernel_rfl) (fun _ _ _ h => h) (by rfl) hSA ?hy1_16 ?r1_16
                case hy1_16 => (intro w hSw; have e0 := bcellS (hSiA _ hSw) c0A; have e1 := bcellS (hSiA _ hSw) c1A; have e2 := bcellS (hSiA _ hSw) c2A; have e3 := bcellS (hSiA _ hSw) c3A; have e4 := bcellS (hSiA _ hSw) c4A; have e5 := bcellS (hSiA _ hSw) c5A; have e6 := bcellS (hSiA _ hSw) c6A; (try dsimp only at hSw); go_simp; try (with_reducible rfl))
                case r1_16 =>
                try simp only [Act.put, List.setIfInBounds_toArray, List.set_cons_zero, List.set_cons_succ]
                refine wpAnyT_take (i := 5) (v := ?v5_17) rfl rfl (by kernel_rfl) (by kernel_rfl) (by kernel_rfl) (fun _ _ _ h => h) (by rfl) hSA ?hy5_17 ?r5_17
                case hy5_17 => (intro w hSw; have e0 := bcellS (hSiA _ hSw) c0A; have e1 := bcellS (hSiA _ hSw) c1A; have e2 := bcellS (hSiA _ hSw) c2A; have e3 := bcellS (hSiA _ hSw) c3A; have e4 := bcellS (hSiA _ hSw) c4A; have e5 := bcellS (hSiA _ hSw) c5A; have e6 := bcellS (hSiA _ hSw) c6A; (try dsimp only at hSw); go_simp; try (with_reducible rfl))
                case r5_17 =>
                try simp only [Act.put, List.setIfInBounds_toArray, List.set_cons_zero, List.set_cons_succ]
                refine wpAnyT_takeY (i := 6) (v := ?v6_18) rfl (by kernel_rfl) (by kernel_rfl) (by kernel_rfl) (fun _ _ _ h => h) (by rfl) ?hy6_18 ?r6_18
                case hy6_18 => (intro w; go_simp; try (with_reducible rfl))
                case r6_18 =>
                try simp only [Act.put, List.setIfInBounds_toArray, List.set_cons_zero, List.set_cons_succ]
                refine wpAnyT_take (i := 7) (v := ?v7_19) rfl rfl (by kernel_rfl) (by kernel_rfl) (by kernel_rfl) (fun _ _ _ h => h) (by rfl) hSA ?hy7_19 ?r7_19
                case hy7_19 => (intro w hSw; have e0 := bcellS (hSiA _ hSw) c0A; have e1 := bcellS (hSiA _ hSw) c1A; have e2 := bcellS (hSiA _ hSw) c2A; have e3 := bcellS (hSiA _ hSw) c3A; have e4 := bcellS (hSiA _ hSw) c4A; have e5 := bcellS (hSiA _ hSw) c5A; have e6 := bcellS (hSiA _ hSw) c6A; (try dsimp only at hSw); go_simp; try (with_reducible rfl))
                case r7_19 =>
                try simp only [Act.put, List.setIfInBounds_toArray, List.set_cons_zero, List.set_cons_succ]
                refine wpAnyT_take (i := 8) (v := ?v8_20) rfl rfl (by kernel_rfl) (by kernel_rfl) (by kernel_rfl) (fun _ _ _ h => h) (by rfl) hSA ?hy8_20 ?r8_20
                case hy8_20 => (intro w hSw; have e0 := bcellS (hSiA _ hSw) c0A; have e1 := bcellS (hSiA _ hSw) c1A; have e2 := bcellS (hSiA _ hSw) c2A; have e3 := bcellS (hSiA _ hSw) c3A; have e4 := bcellS (hSiA _ hSw) c4A; have e5 := bcellS (hSiA _ hSw) c5A; have e6 := bcellS (hSiA _ hSw) c6A; (try dsimp only at hSw); go_simp; try (with_reducible rfl))
                case r8_20 =>
                try simp only [Act.put, List.setIfInBounds_toArray, List.set_cons_zero, List.set_cons_succ]
                refine wpAnyT_take (i := 12) (v := ?v12_21) rfl rfl (by kernel_rfl) (by kernel_rfl) (by kernel_rfl) (fun _ _ _ h => h) (by rfl) hSA ?hy12_21 ?r12_21
                case hy12_21 => (intro w hSw; have e0 := bcellS (hSiA _ hSw) c0A; have e1 := bcellS (hSiA _ hSw) c1A; have e2 := bcellS (hSiA _ hSw) c2A; have e3 := bcellS (hSiA _ hSw) c3A; have e4 := bcellS (hSiA _ hSw) c4A; have e5 := bcellS (hSiA _ hSw) c5A; have e6 := bcellS (hSiA _ hSw) c6A; (try dsimp only at hSw); go_simp; try (with_reducible rfl))
                case r12_21 =>
                try simp only [Act.put, List.setIfInBounds_toArray, List.set_cons_zero, List.set_cons_succ]
                refine wpAnyT_takeY (i := 13) (v := ?v13_22) rfl (by kernel_rfl) (by kernel_rfl) (by kernel_rfl) (fun _ _ _ h => h) (by rfl) ?hy13_22 ?r13_22
                case hy13_22 => (intro w; go_simp; try (with_reducible rfl))
                case r13_22 =>
                try simp only [Act.put, List.setIfInBounds_toArray, List.set_cons_zero, List.set_cons_succ]
                refine wpAnyT_one (i := 14) rfl (by kernel_rfl) (by rfl) (fun K hK => ?_)
                go_simp
                try rw [hwm]
                refine (hclA _ (Below.refl _ _).drew).mono ?_
                rintro e wA ⟨rfl, hBA⟩
                try dsimp only
                have hBA' : Below wr.heap.size wr wA := (Below.refl _ _).drew.trans hBA
                have hSA' := hSofA _ hBA'
                refine hK _ _ (fun _ _ => hSA') ?_
                clear hK K
                try simp only [Act.put, List.setIfInBounds_toArray, List.set_cons_zero, List.set_cons_succ]
                refine wpAnyT_takeY (i := 15) (v := ?v15_23) rfl (by kernel_rfl) (by kernel_rfl) (by kernel_rfl) (fun _ _ _ h => h) (by rfl) ?hy15_23 ?r15_23
                case hy15_23 => (intro w; go_simp; try (with_reducible rfl))
                case r15_23 =>
                try simp only [Act.put, List.setIfInBounds_toArray, List.set_cons_zero, List.set_cons_succ]
                refine wpAnyT_take (i := 16) (v := ?v16_24) rfl rfl (by kernel_rfl) (by kernel_rfl) (by kernel_rfl) (fun _ _ _ h => h) (by rfl) hSA' ?hy16_24 ?r16_24
                case hy16_24 => (intro w hSw; have e0 := bcellS (hSiA _ hSw) c0A; have e1 := bcellS (hSiA _ hSw) c1A; have e2 := bcellS (hSiA _ hSw) c2A; have e3 := bcellS (hSiA _ hSw) c3A; have e4 := bcellS (hSiA _ hSw) c4A; have e5 := bcellS (hSiA _ hSw) c5A; have e6 := bcellS (hSiA _ hSw) c6A; (try dsimp only at hSw); go_simp; try (with_reducible rfl))
                case r16_24 =>
                try simp only [Act.put, List.setIfInBounds_toArray, List.set_cons_zero, List.set_cons_succ]
                refine wpAnyT_takeY (i := 17) (v := ?v17_25) rfl (by kernel_rfl) (by kernel_rfl) (by kernel_rfl) (fun _ _ _ h => h) (by rfl) ?hy17_25 ?r17_25
                case hy17_25 => (intro w; go_simp; try (with_reducible rfl))
                case r17_25 =>
                try simp only [Act.put, List.setIfInBounds_toArray, List.set_cons_zero, List.set_cons_succ]
                refine wpAnyT_done (by kernel_rfl) ?_ _
                refine NoPanic.normal ?_
                have c0B := bcellS hBA' y0
                have c1B := bcellS hBA' y1
                have c2B := bcellS hBA' y2
                have c3B := bcellS hBA' c3B
                have c4B := bcellS hBA' clr
                have c5B := bcellS hBA' cRr
                have c6B := bcellS hBA' c6B
                replace hclB := fun W' (hW' : Below wA.heap.size wA W') => hclB W' (hBA'.trans (hW'.mono hBA'.size))
                clear c0A c1A c2A c3A c4A c5A c6A y0 y1 y2 clr cRr cLr hSofA hSiA hSA hSA' hclA hBA SSA
                obtain ⟨SSB, hSSB⟩ : ∃ S : World → Prop, S = fun w' => Below wA.heap.size wA w' := ⟨_, rfl⟩
                have hSofB : ∀ W', Below wA.heap.size wA W' → SSB W' := fun W' h => by rw [hSSB]; exact h
                have hSiB : ∀ W', SSB W' → Below wA.heap.size wA W' := fun W' h => by rw [hSSB] at h; exact h
                have hSB : SSB wA.drew := hSofB _ (Below.refl _ _).drew
                clear hSSB
                go_wp2
                refine wp_region_noPanic (wp_region_T SSB [1, 5, 7, 8, 12, 16] (by kernel_rfl) ?_)
                refine wpAnyT_takeY (i := 0) (v := ?v0_26) rfl (by kernel_rfl) (by kernel_rfl) (by kernel_rfl) (fun _ _ _ h => h) (by rfl) ?hy0_26 ?r0_26
                case hy0_26 => (intro w; go_simp; try (with_reducible rfl))
                case r0_26 =>
                try simp only [Act.put, List.setIfInBounds_toArray, List.set_cons_zero, List.set_cons_succ]
                refine wpAnyT_takeY (i := 2) (v := ?v2_27) rfl (by kernel_rfl) (by kernel_rfl) (by kernel_rfl) (fun _ _ _ h => h) (by rfl) ?hy2_27 ?r2_27
                case hy2_27 => (intro w; go_simp; try (with_reducible rfl))
                case r2_27 =>
                try simp only [Act.put, List.setIfInBounds_toArray, List.set_cons_zero, List.set_cons_succ]
                refine wpAnyT_takeY (i := 3) (v := ?v3_28) rfl (by kernel_rfl) (by kernel_rfl) (by kernel_rfl) (fun _ _ _ h => h) (by rfl) ?hy3_28 ?r3_28
                case hy3_28 => (intro w; go_simp; try (with_reducible rfl))
                case r3_28 =>
                try simp only [Act.put, List.setIfInBounds_toArray, List.set_cons_zero, List.set_cons_succ]
                refine wpAnyT_takeY (i := 4) (v := ?v4_29) rfl (by kernel_rfl) (by kernel_rfl) (by kernel_rfl) (fun _ _ _ h => h) (by rfl) ?hy4_29 ?r4_29
                case hy4_29 => (intro w; go_simp; try (with_reducible rfl))
                case r4_29 =>
                try simp only [Act.put, List.setIfInBounds_toArray, List.set_cons_zero, List.set_cons_succ]
                refine wpAnyT_takeY (i := 9) (v := ?v9_30) rfl (by kernel_rfl) (by kernel_rfl) (by kernel_rfl) (fun _ _ _ h => h) (by rfl) ?hy9_30 ?r9_30
                case hy9_30 => (intro w; go_simp; try (with_reducible rfl))
                case r9_30 =>
                try simp only [Act.put, List.setIfInBounds_toArray, List.set_cons_zero, List.set_cons_succ]
                refine wpAnyT_takeY (i := 10) (v := ?v10_31) rfl (by kernel_rfl) (by kernel_rfl) (by kernel_rfl) (fun _ _ _ h => h) (by rfl) ?hy10_31 ?r10_31
                case hy10_31 => (intro w; go_simp; try (with_reducible rfl))
                case r10_31 =>
                try simp only [Act.put, List.setIfInBounds_toArray, List.set_cons_zero, List.set_cons_succ]
                refine wpAnyT_takeY (i := 11) (v := ?v11_32) rfl (by kernel_rfl) (by kernel_rfl) (by kernel_rfl) (fun _ _ _ h => h) (by rfl) ?hy11_32 ?r11_32
                case hy11_32 => (intro w; go_simp; try (with_reducible rfl))
                case r11_32 =>
                try simp only [Act.put, List.setIfInBounds_toArray, List.set_cons_zero, List.set_cons_succ]
                refine wpAnyT_take (i := 1) (v := ?v1_33) rfl rfl (by kernel_rfl) (by kernel_rfl) (by kernel_rfl) (fun _ _ _ h => h) (by rfl) hSB ?hy1_33 ?r1_33
                case hy1_33 => (intro w hSw; have e0 := bcellS (hSiB _ hSw) c0B; have e1 := bcellS (hSiB _ hSw) c1B; have e2 := bcellS (hSiB _ hSw) c2B; have e3 := bcellS (hSiB _ hSw) c3B; have e4 := bcellS (hSiB _ hSw) c4B; have e5 := bcellS (hSiB _ hSw) c5B; have e6 := bcellS (hSiB _ hSw) c6B; (try dsimp only at hSw); go_simp; try (with_reducible rfl))
                case r1_33 =>
                try simp only [Act.put, List.setIfInBounds_toArray, List.set_cons_zero, List.set_cons_succ]
                refine wpAnyT_take (i := 5) (v := ?v5_34) rfl rfl (by kernel_rfl) (by kernel_rfl) (by kernel_rfl) (fun _ _ _ h => h) (by rfl) hSB ?hy5_34 ?r5_34
                case hy5_34 => (intro w hSw; have e0 := bcellS (hSiB _ hSw) c0B; have e1 := bcellS (hSiB _ hSw) c1B; have e2 := bcellS (hSiB _ hSw) c2B; have e3 := bcellS (hSiB _ hSw) c3B; have e4 := bcellS (hSiB _ hSw) c4B; have e5 := bcellS (hSiB _ hSw) c5B; have e6 := bcellS (hSiB _ hSw) c6B; (try dsimp only at hSw); go_simp; try (with_reducible rfl))
                case r5_34 =>
                try simp only [Act.put, List.setIfInBounds_toArray, List.set_cons_zero, List.set_cons_succ]
                refine wpAnyT_takeY (i := 6) (v := ?v6_35) rfl (by kernel_rfl) (by kernel_rfl) (by kernel_rfl) (fun _ _ _ h => h) (by rfl) ?hy6_35 ?r6_35
                case hy6_35 => (intro w; go_simp; try (with_reducible rfl))
                case r6_35 =>
                try simp only [Act.put, List.setIfInBounds_toArray, List.set_cons_zero, List.set_cons_succ]
                refine wpAnyT_take (i := 7) (v := ?v7_36) rfl rfl (by kernel_rfl) (by kernel_rfl) (by kernel_rfl) (fun _ _ _ h => h) (by rfl) hSB ?hy7_36 ?r7_36
                case hy7_36 => (intro w hSw; have e0 := bcellS (hSiB _ hSw) c0B; have e1 := bcellS (hSiB _ hSw) c1B; have e2 := bcellS (hSiB _ hSw) c2B; have e3 := bcellS (hSiB _ hSw) c3B; have e4 := bcellS (hSiB _ hSw) c4B; have e5 := bcellS (hSiB _ hSw) c5B; have e6 := bcellS (hSiB _ hSw) c6B; (try dsimp only at hSw); go_simp; try (with_reducible rfl))
                case r7_36 =>
                try simp only [Act.put, List.setIfInBounds_toArray, List.set_cons_zero, List.set_cons_succ]
                refine wpAnyT_take (i := 8) (v := ?v8_37) rfl rfl (by kernel_rfl) (by kernel_rfl) (by kernel_rfl) (fun _ _ _ h => h) (by rfl) hSB ?hy8_37 ?r8_37
                case hy8_37 => (intro w hSw; have e0 := bcellS (hSiB _ hSw) c0B; have e1 := bcellS (hSiB _ hSw) c1B; have e2 := bcellS (hSiB _ hSw) c2B; have e3 := bcellS (hSiB _ hSw) c3B; have e4 := bcellS (hSiB _ hSw) c4B; have e5 := bcellS (hSiB _ hSw) c5B; have e6 := bcellS (hSiB _ hSw) c6B; (try dsimp only at hSw); go_simp; try (with_reducible rfl))
                case r8_37 =>
                try simp only [Act.put, List.setIfInBounds_toArray, List.set_cons_zero, List.set_cons_succ]
                refine wpAnyT_take (i := 12) (v := ?v12_38) rfl rfl (by kernel_rfl) (by kernel_rfl) (by kernel_rfl) (fun _ _ _ h => h) (by rfl) hSB ?hy12_38 ?r12_38
                case hy12_38 => (intro w hSw; have e0 := bcellS (hSiB _ hSw) c0B; have e1 := bcellS (hSiB _ hSw) c1B; have e2 := bcellS (hSiB _ hSw) c2B; have e3 := bcellS (hSiB _ hSw) c3B; have e4 := bcellS (hSiB _ hSw) c4B; have e5 := bcellS (hSiB _ hSw) c5B; have e6 := bcellS (hSiB _ hSw) c6B; (try dsimp only at hSw); go_simp; try (with_reducible rfl))
                case r12_38 =>
                try simp only [Act.put, List.setIfInBounds_toArray, List.set_cons_zero, List.set_cons_succ]
                refine wpAnyT_takeY (i := 13) (v := ?v13_39) rfl (by kernel_rfl) (by kernel_rfl) (by kernel_rfl) (fun _ _ _ h => h) (by rfl) ?hy13_39 ?r13_39
                case hy13_39 => (intro w; go_simp; try (with_reducible rfl))
                case r13_39 =>
                try simp only [Act.put, List.setIfInBounds_toArray, List.set_cons_zero, List.set_cons_succ]
                refine wpAnyT_one (i := 14) rfl (by kernel_rfl) (by rfl) (fun K hK => ?_)
                go_simp
                try rw [hwm]
                refine (hclB _ (Below.refl _ _).drew).mono ?_
                rintro e wB ⟨rfl, hBB⟩
                try dsimp only
                have hBB' : Below wA.heap.size wA wB := (Below.refl _ _).drew.trans hBB
                have hSB' := hSofB _ hBB'
                refine hK _ _ (fun _ _ => hSB') ?_
                clear hK K
                try simp only [Act.put, List.setIfInBounds_toArray, List.set_cons_zero, List.set_cons_succ]
                refine wpAnyT_takeY (i := 15) (v := ?v15_40) rfl (by kernel_rfl) (by kernel_rfl) (by kernel_rfl) (fun _ _ _ h => h) (by rfl) ?hy15_40 ?r15_40
                case hy15_40 => (intro w; go_simp; try (with_reducible rfl))
                case r15_40 =>
                try simp only [Act.put, List.setIfInBounds_toArray, List.set_cons_zero, List.set_cons_succ]
                refine wpAnyT_take (i := 16) (v := ?v16_41) rfl rfl (by kernel_rfl) (by kernel_rfl) (by kernel_rfl) (fun _ _ _ h => h) (by rfl) hSB' ?hy16_41 ?r16_41
                case hy16_41 => (intro w hSw; have e0 := bcellS (hSiB _ hSw) c0B; have e1 := bcellS (hSiB _ hSw) c1B; have e2 := bcellS (hSiB _ hSw) c2B; have e3 := bcellS (hSiB _ hSw) c3B; have e4 := bcellS (hSiB _ hSw) c4B; have e5 := bcellS (hSiB _ hSw) c5B; have e6 := bcellS (hSiB _ hSw) c6B; (try dsimp only at hSw); go_simp; try (with_reducible rfl))
                case r16_41 =>
                try simp only [Act.put, List.setIfInBounds_toArray, List.set_cons_zero, List.set_cons_succ]
                refine wpAnyT_takeY (i := 17) (v := ?v17_42) rfl (by kernel_rfl) (by kernel_rfl) (by kernel_rfl) (fun _ _ _ h => h) (by rfl) ?hy17_42 ?r17_42
                case hy17_42 => (intro w; go_simp; try (with_reducible rfl))
                case r17_42 =>
                try simp only [Act.put, List.setIfInBounds_toArray, List.set_cons_zero, List.set_cons_succ]
                refine wpAnyT_done (by kernel_rfl) ?_ _
                refine NoPanic.normal ?_
                have hBw9 := hBA'.trans (hBB'.mono hBA'.size)
                have HP := Lib.hid (HI.out.ext hBw9)
                clear c0B c1B c2B c3B c4B c5B c6B hSofB hSiB hSB hSB' hclB hBB SSB
                clear hwm hca0 hca1 hcb0 hcb1 hpa0 hpa1 hpb0 hpb1 hm0 hm1 hmm hkl'
                have hB3B : Below w3.heap.size w3 wB := hBr.trans (hBw9.mono hBr.size)
                have hB0B := hB03.trans (hB3B.mono hB03.size)
                have q8 := (hB0B.block _ (Array.getElem?_eq_some_iff.1 HQ2.out).1).trans HQ2.out
                have q10 := (hB0B.block _ (Array.getElem?_eq_some_iff.1 HQ3.out).1).trans HQ3.out
                have HBwB := Lib.hid (hBw3.trans (hB3B.mono hBw3.size))
                have HQ8 := Lib.hid q8
                have HQ10 := Lib.hid q10
                clear q8 q10 hB0B hB3B hBw9 hBr hBo hBwr hB0r hBA' hBB'
                have hya63 : inI64 (ya : Int) := by have h1 := (right_len HA0).2.1; have h2 := HN4.out.1; constructor <;> omega
                have hyb63 : inI64 (yb : Int) := by have h1 := (right_len HB0).2.1; have h2 := HN4.out.2; constructor <;> omega
                have HY := Lib.hid (And.intro hya63 hyb63)
                clear hya63 hyb63
                obtain ⟨Wk, rfl⟩ : ∃ x : World, x = wr := ⟨_, rfl⟩
                obtain ⟨gk1, rfl⟩ : ∃ x : Nat, x = gk := ⟨_, rfl⟩
                go_wp2
                go_loopg [22] (t2.length + 1) (fun gk vt wr => ∃ t : Nat, vt = .int .i64 (t : Int) ∧ t ≤ t2.length ∧ gk + t = t2.length + 1 ∧ (∀ j (hj : j < t2.length), j < t → t2[j] ≠ (ya, yb)) ∧ wr = wB)
                case atStart => exact ⟨0, rfl, by omega, by omega, fun j _ h => by omega, rfl⟩
                case round =>
                  obtain ⟨t, rfl, ht, hgt, hfi, hwr⟩ := hrel
                  subst hwr
                  have HGt := Lib.hid hgt
                  have HFi := Lib.hid hfi
                  have ht0' : (0 : Int) ≤ t := by omega
                  clear hgt hfi
                  by_cases hl4 : t < t2.length
                  · have hl4' : (t : Int) < t2.length := by omega
                    obtain ⟨b', o', he, _, _, cL4, _⟩ := S_int HP.out.ol.readS (i := t) (by simpa using hl4)
                    injection he with he; injection he with he1 he2 he3; subst he1 he2
                    obtain ⟨b', o', he, _, _, cR4, _⟩ := S_int HP.out.or.readS (i := t) (by simpa using hl4)
                    injection he with he; injection he with he1 he2 he4; subst he1 he2
                    rw [List.getElem_map] at cL4 cR4
                    have hx : ∃ x, t2[t] = x := ⟨_, rfl⟩
                    obtain ⟨⟨xa, xb⟩, hx⟩ := hx
                    rw [hx] at cL4 cR4
                    dsimp only at cL4 cR4
                    have HX4 := Lib.hid hx
                    clear hx he3 he4
                    by_cases hq : xa = ya ∧ xb = yb
                    · obtain ⟨rfl, rfl⟩ := hq
                      have hne4 : ((t : Int) == t2.length) = false := by simp; omega
                      have hidx := idx_first (q := (xa, xb)) HFi.out ht (fun _ => HX4.out)
                      have hmem : (xa, xb) ∈ t2 := by rw [← HX4.out]; exact List.getElem_mem hl4
                      have HIX := Lib.hid (And.intro hidx hmem)
                      clear hidx hmem
                      have hXle : X.length ≤ 256 := by have := HXl.out; omega
                      have ht63 : inI64 (t : Int) := by constructor <;> omega
                      go_wp2_with (at_builtin; refine own_append Kint wr Wo.heap.size wr.heap.size rfl _ _ 36 3 (.int .i64 0) 8 rfl Tryz.underlying36 info_int rfl (by decide) (by decide) (.slice QX X.length dX) X (t : Int) [.int .i64 (t : Int)] (fun b => Wo.heap.size ≤ b) rfl rfl rfl ⟨rfl, ht63⟩ HP.out.ox (fun k hk => Nat.le_trans HP.out.kp.size hk) HP.out.kp.size (by omega) ?_; intro v2 w9 hO9 hM9 hv9)
                      go_roundg (gk1 - 1)
                      case measure => have := HGk.out; omega
                      case rel => exact ⟨k + 1, t2, X ++ [(t : Int)], by go_num, by omega, by have := HGk.out; omega, HP.out.add hO9 hM9, by rw [← HIn2.out, inAll_old HIX.out.2, HIX.out.1], by have := HXl.out; simp; omega, htl2, ht0, HRg2.out, HPX.out⟩
                    · by_cases hqa : xa = ya
                      · subst hqa
                        have hqb : ((xb : Int) != yb) = true := by simp; intro e; exact hq ⟨rfl, by omega⟩
                        have hnx : t2[t] ≠ (xa, yb) := by rw [HX4.out]; intro e; injection e with e1 e2; exact hq ⟨rfl, e2⟩
                        have HNX := Lib.hid hnx
                        clear hq hnx
                        go_wp2
                        go_roundg (gk - 1)
                        case measure => have := HGt.out; omega
                        case rel => exact ⟨t + 1, by go_num, by omega, by have := HGt.out; omega, fun j hj h => by
                          rcases Nat.lt_or_eq_of_le (Nat.le_of_lt_succ h) with h | h
                          · exact HFi.out j hj h
                          · subst h; exact HNX.out, rfl⟩
                      · have hqb : ((xa : Int) != ya) = true := by simp; omega
                        have hnx : t2[t] ≠ (ya, yb) := by rw [HX4.out]; intro e; injection e with e1 e2; exact hqa e1
                        have HNX := Lib.hid hnx
                        clear hq hqa hnx
                        go_wp2
                        go_roundg (gk - 1)
                        case measure => have := HGt.out; omega
                        case rel => exact ⟨t + 1, by go_num, by omega, by have := HGt.out; omega, fun j hj h => by
                          rcases Nat.lt_or_eq_of_le (Nat.le_of_lt_succ h) with h | h
                          · exact HFi.out j hj h
                          · subst h; exact HNX.out, rfl⟩
                  · obtain rfl : t = t2.length := by omega
                    have hge4 : ¬ ((t2.length : Int) < t2.length) := by omega
                    have hidx := idx_first (q := (ya, yb)) HFi.out (Nat.le_refl _) (fun h => absurd h (Nat.lt_irrefl _))
                    have hnm : (ya, yb) ∉ t2 := fun h => by have := List.idxOf_lt_length_of_mem h; omega
                    have HNM := Lib.hid hnm
                    clear hidx hnm
                    by_cases hfull : t2.length = fuel.toNat
                    · have hfe : ((t2.length : Int) == fuel) = true := by simp; omega
                      have hof : ofB a b op fuel = (⟨[], [], []⟩, 181) := by
                        refine of_full HA0 HB0 hop4 hf0 hf1 HR.out (by have := HG.out; omega) hlt ?_
                        unfold outStep
                        rw [HPD.out, HNR.out (pa, pb), ← HIn2.out, inAll_full HNM.out hfull]
                      have HOF := Lib.hid hof
                      clear hof hfull
                      obtain ⟨z0, z1, z2⟩ := cells3 HQ8.out
                      have zf : ∀ j, wr.frozen? ⟨w.heap.size + 1 + 1, j, none⟩ = false := fun j => frozen_of_row wr _ j _ _ HQ8.out
                      obtain ⟨y0, y1, y2⟩ := cells3 HQ10.out
                      go_wp2
                      obtain ⟨v0, v1, v2, hBF, _⟩ := set3 wr (w.heap.size + 1 + 1) 42 _ _ _ (.slice none 0 0) (.slice none 0 0) (.slice none 0 0) z0 z1 z2
                      refine bodyPost_ret (v := .tuple #[dfaV nilDA noDfa, .int .i64 181]) (by simp [results, Tryz.results17, go_sem, v0, v1, v2, dfaV, dfaC, nilDA, noDfa]) rfl ⟨nilDA, by rw [HOF.out]; rfl, by rw [HOF.out]; exact noDfaW _ _, HBwB.out.trans (hBF _ (by omega))⟩
                    · have hfe : ((t2.length : Int) == fuel) = false := by simp; omega
                      have HFu := Lib.hid hfull
                      clear hfull
                      have hXle : X.length ≤ 256 := by have := HXl.out; omega
                      have ht63 : inI64 (t2.length : Int) := by constructor <;> omega
                      have hzk : Wc.heap.size ≤ wr.heap.size := by have h1 := HO.out.kp.size; have h2 := HP.out.kp.size; omega
                      go_wp2_with (first
                        | (at_builtin; refine own_append Kint wr Wc.heap.size wr.heap.size rfl _ _ 36 3 (.int .i64 0) 8 rfl Tryz.underlying36 info_int rfl (by decide) (by decide) (.slice (some ⟨bL, oL, none⟩) t2.length dL) (t2.map fun p => (p.1 : Int)) (ya : Int) [.int .i64 (ya : Int)] (fun b => Wc.heap.size ≤ b) rfl rfl rfl ⟨rfl, HY.out.1⟩ HP.out.ol (fun k hk => Nat.le_trans hzk hk) hzk (by simp only [List.length_map]; omega) ?_; intro v9 w9 hO9 hM9 hv9; simp only [List.length_map] at hv9; obtain ⟨g9, c9, rfl⟩ := hv9; have HP9 := Lib.hid (HP.out.pushL hO9 hM9); have hz9 := Nat.le_trans hzk hM9.size; clear hO9 hM9)
                        | (at_builtin; refine own_append Kint w9 Wc.heap.size w9.heap.size rfl _ _ 36 3 (.int .i64 0) 8 rfl Tryz.underlying36 info_int rfl (by decide) (by decide) (.slice (some ⟨bR, oR, none⟩) t2.length dR) (t2.map fun p => (p.2 : Int)) (yb : Int) [.int .i64 (yb : Int)] (fun b => Wc.heap.size ≤ b) rfl rfl rfl ⟨rfl, HY.out.2⟩ HP9.out.or (fun k hk => Nat.le_trans hz9 hk) hz9 (by simp only [List.length_map]; omega) ?_; intro v10 w10 hO10 hM10 hv10; simp only [List.length_map] at hv10; obtain ⟨g10, c10, rfl⟩ := hv10; have HP10 := Lib.hid (HP9.out.pushR hO10 hM10); clear hO10 hM10)
                        | (at_builtin; refine own_append Kint w10 Wo.heap.size w10.heap.size rfl _ _ 36 3 (.int .i64 0) 8 rfl Tryz.underlying36 info_int rfl (by decide) (by decide) (.slice QX X.length dX) X (t2.length : Int) [.int .i64 (t2.length : Int)] (fun b => Wo.heap.size ≤ b) rfl rfl rfl ⟨rfl, ht63⟩ HP10.out.ox (fun k hk => Nat.le_trans HP10.out.kp.size hk) HP10.out.kp.size (by omega) ?_; intro v11 w11 hO11 hM11 hv11))
                      go_roundg (gk1 - 1)
                      case measure => have := HGk.out; omega
                      case rel =>
                        refine ⟨k + 1, t2 ++ [(ya, yb)], X ++ [(t2.length : Int)], by go_num, by omega, by have := HGk.out; omega, ?_, by rw [← HIn2.out, inAll_new HNM.out HFu.out], by have := HXl.out; simp; omega, ?_, by simp; omega, fun p hp => ?_, ?_⟩
                        · have := HP10.out.add hO11 hM11
                          simpa using this
                        · have := HFu.out; simp; omega
                        · rcases List.mem_append.1 hp with hp | hp
                          · exact HRg2.out p hp
                          · rw [List.mem_singleton.1 hp]; exact HN4.out
                        · rw [List.getElem?_append_left (by omega)]; exact HPX.out
              · obtain rfl : k = (leastsN (a.cls ++ b.cls)).length := by omega
                have hge2 : ¬ ((((leastsN (a.cls ++ b.cls)).length : Nat) : Int) < (leastsN (a.cls ++ b.cls)).length) := by omega
                have hin2 := HIn.out
                rw [List.drop_eq_nil_of_le (by simp)] at hin2
                have hst : outStep a b op fuel.toNat (allB a b) st = some ⟨t2, st.next ++ [X], st.marks ++ [markP a b op (pa, pb)]⟩ := by
                  unfold outStep
                  rw [HPD.out, HNR.out (pa, pb), ← hin2]; rfl
                have HST := Lib.hid hst
                clear hst hin2
                have hsl2 : st.next.length < t2.length := by omega
                have hsl3 : (st.next.length : Int) < t2.length := by omega
                have hp2 : t2[st.next.length] = (pa, pb) := by
                  have := HPX.out
                  rw [List.getElem?_eq_getElem hsl2] at this; exact Option.some.inj this
                have hXle : X.length ≤ 256 := by have := HXl.out; omega
                have hO2 := HO.out.inner hI
                have HO2 := Lib.hid hO2
                have hX := hI.ox.reF flatInt (G := fun j => Wo.heap.size ≤ j ∧ some j ≠ (Value.slice QL t2.length dL).ownBlock ∧ some j ≠ (Value.slice QR t2.length dR).ownBlock) fun j hj => ⟨hI.ox.1 j hj, fun e => hI.n2 j e.symm hj, fun e => hI.n3 j e.symm hj⟩
                have HX := Lib.hid hX
                have hzo : Wc.heap.size ≤ Wo.heap.size := HO.out.kp.size
                have hzr : Wo.heap.size ≤ wr.heap.size := hI.kp.size
                have hnl : st.next.length ≤ 4000 := by omega
                have hml0 : st.marks.length ≤ 4000 := by rw [HML.out]; omega
                obtain ⟨f0, f1, f2⟩ := cells3 hO2.hb
                have f3 : ∀ j, wr.frozen? ⟨w4.heap.size, j, none⟩ = false := fun j => frozen_of_row wr _ j _ _ hO2.hb
                have hbw : w4.heap.size < wr.heap.size := (Array.getElem?_eq_some_iff.1 hO2.hb).1
                have hneN : some w4.heap.size ≠ (Value.slice PN st.next.length cN).ownBlock := fun e => by have := (hO2.on.lt _ e.symm).1; have := hO2.hl; omega
                have hneM : some w4.heap.size ≠ (Value.slice PM st.marks.length cM).ownBlock := fun e => by have := (hO2.om.lt _ e.symm).1; have := hO2.hl; omega
                have HBr := Lib.hid hBr
                have HBwr := Lib.hid hBwr
                have HHB := Lib.hid hO2.hb
                clear hO2 hX hI hBr hBwr hBo
                go_wp2_with (at_builtin
                             refine own_appendS KintF (wr.alloc (.cells #[.slice QX X.length dX] 36)) Wc.heap.size rfl _ _ 23 36 (.slice none 0 0) 24 rfl Tryz.underlying23 info_ints rfl (by decide) (by decide) (.slice PN st.next.length cN) st.next [X] (some ⟨wr.heap.size, 0, none⟩) 1 (fun j => Wc.heap.size ≤ j ∧ some j ≠ (Value.slice QL t2.length dL).ownBlock ∧ some j ≠ (Value.slice QR t2.length dR).ownBlock ∧ some j ≠ (Value.slice PM st.marks.length cM).ownBlock) (fun j => j = wr.heap.size ∨ (Wo.heap.size ≤ j ∧ some j ≠ (Value.slice QL t2.length dL).ownBlock ∧ some j ≠ (Value.slice QR t2.length dR).ownBlock)) rfl rfl (box_S KintF wr 36 [.slice QX X.length dX] X _ (KintF.mono (fun _ h => .inr h) (KintF.step HX.out.sliceF fun b _ hl => Below.heap_alloc wr _ b hl)) (.inl rfl)) (fun q c h => KintF.mono (fun b hb => ?cb) h) (HO2.out.on.step fun b _ hl => Below.heap_alloc wr _ b hl) (fun j hj => ?ck) (by simp; omega) (by simp; omega) ?_
                             case cb =>
                               have hM' := fun e => (HO.out.om.lt b (Eq.symm e)).2
                               have hN' := fun e => (HO.out.on.lt b (Eq.symm e)).2
                               rcases hb with hb | hb
                               · subst hb
                                 exact ⟨⟨by omega, fun e => by have := (HO2.out.ol.lt _ e.symm).2; omega, fun e => by have := (HO2.out.or.lt _ e.symm).2; omega, fun e => by have := hM' e; omega⟩, fun e => by have := hN' e; omega⟩
                               · exact ⟨⟨by omega, hb.2.1, hb.2.2, fun e => by have := hM' e; omega⟩, fun e => by have := hN' e; omega⟩
                             case ck =>
                               simp at hj
                               exact ⟨by omega, fun e => by have := (HO2.out.ol.lt _ e.symm).2; omega, fun e => by have := (HO2.out.or.lt _ e.symm).2; omega, fun e => by have := (HO.out.om.lt _ e.symm).2; omega⟩
                             intro vN' w10 hO10 hM10 hv10
                             obtain ⟨gN, cN', rfl⟩ := hv10 (by simp)
                             have hb10 := hM10.heap ((Below.heap_alloc wr (.cells #[.slice QX X.length dX] 36) _ hbw).trans HHB.out) hneN
                             have HO3 := Lib.hid ((HO2.out.ext ((Below.refl _ _).alloc (Nat.le_refl _) (.cells #[.slice QX X.length dX] 36))).putN hO10 hM10)
                             have HB10 := Lib.hid (Mov.below (B := w3.heap.size) ((Below.refl w3.heap.size wr).alloc (by omega) (.cells #[.slice QX X.length dX] 36)) hM10 (by simp; omega) (fun q hq => by have := (HO.out.on.lt q hq).1; omega))
                             obtain ⟨a0, a1, a2⟩ := cells3 hb10
                             have a3 : ∀ j, w10.frozen? ⟨w4.heap.size, j, none⟩ = false := fun j => frozen_of_row w10 _ j _ _ hb10
                             clear hO10 hM10 hb10 f0 f1 f2 f3)
                refine wp_name fun W11 hW11 => ?_
                have hO4 := HO3.out
                have hB11 : Below w3.heap.size wr W11 := by rw [← hW11]; exact HB10.out.setCell (p := ⟨w4.heap.size, 1, none⟩) hz34 _
                have e9 : (st.next ++ [X]).length = st.next.length + 1 := by simp
                rw [e9, hW11] at hO4
                clear e9
                clear hW11 HO3 a0 a1 a2 a3 hneN
                have hB311 : Below w3.heap.size w3 W11 := HBr.out.trans hB11
                have hBw11 := hBw3.trans (hB311.mono hBw3.size)
                have hpm : pa < a.marks.length := by rw [(right_len HA0).2.2]; exact hpr.1
                have hpm' : pb < b.marks.length := by rw [(right_len HB0).2.2]; exact hpr.2
                have hta := ra.t.below hBw11
                have htb := rb.t.below hBw11
                obtain ⟨b5, o5, B5, d5, e5a, _, _, z2, _, _, _⟩ := S_slice hta.t3 hpm
                obtain ⟨b8, o8, B8, d8, e8a, _, _, z5, _, _, _⟩ := S_slice htb.t3 hpm'
                obtain rfl : A3 = some ⟨b5, o5, none⟩ := e5a
                obtain rfl : B3 = some ⟨b8, o8, none⟩ := e8a
                obtain ⟨bL, oL, rfl, _, _, z1, _⟩ := S_int hO4.ol.readS (i := st.next.length) (by simpa using hsl2)
                obtain ⟨bR, oR, rfl, _, _, z4, _⟩ := S_int hO4.or.readS (i := st.next.length) (by simpa using hsl2)
                rw [List.getElem_map, hp2] at z1 z4
                dsimp only at z1 z4
                have z0 := bcellS hB311 HT4.out.2.2
                have z3 := bcellS hB311 HT5.out.2.2
                have hmk : markP a b op (pa, pb) = if sayB op (decide (0 < a.marks[pa].length)) (decide (0 < b.marks[pb].length)) then [0] else [] := by
                  unfold markP; simp [List.getD_eq_getElem?_getD, List.getElem?_eq_getElem hpm, List.getElem?_eq_getElem hpm']
                have hpa0 : (0 : Int) ≤ pa := by omega
                have hpa1 : (pa : Int) < a.marks.length := by omega
                have hpb0 : (0 : Int) ≤ pb := by omega
                have hpb1 : (pb : Int) < b.marks.length := by omega
                generalize a.marks[pa].length = la at *
                generalize b.marks[pb].length = lb at *
                have HO4 := Lib.hid hO4
                have HMK := Lib.hid hmk
                clear hO4 hmk hta htb hp2
                obtain ⟨SS, hSS⟩ : ∃ S : World → Prop, S = fun w' => Below W11.heap.size W11 w' := ⟨_, rfl⟩
                have hSof : ∀ W', Below W11.heap.size W11 W' → SS W' := fun W' h => by rw [hSS]; exact h
                have hSi : ∀ W', SS W' → Below W11.heap.size W11 W' := fun W' h => by rw [hSS] at h; exact h
                have hS : SS W11.drew := hSof _ (Below.refl _ _).drew
                clear hSS
                refine wp_region_noPanic (wp_region_T SS [2, 6, 8, 12, 16, 18] (by kernel_rfl) ?_)
                refine wpAnyT_takeY (i := 0) (v := ?v0_43) rfl (by kernel_rfl) (by kernel_rfl) (by kernel_rfl) (fun _ _ _ h => h) (by rfl) ?hy0_43 ?r0_43
                case hy0_43 => (intro w; go_simp; try (with_reducible rfl))
                case r0_43 =>
                try simp only [Act.put, List.setIfInBounds_toArray, List.set_cons_zero, List.set_cons_succ]
                refine wpAnyT_takeY (i := 1) (v := ?v1_44) rfl (by kernel_rfl) (by kernel_rfl) (by kernel_rfl) (fun _ _ _ h => h) (by rfl) ?hy1_44 ?r1_44
                case hy1_44 => (intro w; go_simp; try (with_reducible rfl))
                case r1_44 =>
                try simp only [Act.put, List.setIfInBounds_toArray, List.set_cons_zero, List.set_cons_succ]
                refine wpAnyT_takeY (i := 3) (v := ?v3_45) rfl (by kernel_rfl) (by kernel_rfl) (by kernel_rfl) (fun _ _ _ h => h) (by rfl) ?hy3_45 ?r3_45
                case hy3_45 => (intro w; go_simp; try (with_reducible rfl))
                case r3_45 =>
                try simp only [Act.put, List.setIfInBounds_toArray, List.set_cons_zero, List.set_cons_succ]
                refine wpAnyT_takeY (i := 4) (v := ?v4_46) rfl (by kernel_rfl) (by kernel_rfl) (by kernel_rfl) (fun _ _ _ h => h) (by rfl) ?hy4_46 ?r4_46
                case hy4_46 => (intro w; go_simp; try (with_reducible rfl))
                case r4_46 =>
                try simp only [Act.put, List.setIfInBounds_toArray, List.set_cons_zero, List.set_cons_succ]
                refine wpAnyT_takeY (i := 5) (v := ?v5_47) rfl (by kernel_rfl) (by kernel_rfl) (by kernel_rfl) (fun _ _ _ h => h) (by rfl) ?hy5_47 ?r5_47
                case hy5_47 => (intro w; go_simp; try (with_reducible rfl))
                case r5_47 =>
                try simp only [Act.put, List.setIfInBounds_toArray, List.set_cons_zero, List.set_cons_succ]
                refine wpAnyT_takeY (i := 11) (v := ?v11_48) rfl (by kernel_rfl) (by kernel_rfl) (by kernel_rfl) (fun _ _ _ h => h) (by rfl) ?hy11_48 ?r11_48
                case hy11_48 => (intro w; go_simp; try (with_reducible rfl))
                case r11_48 =>
                try simp only [Act.put, List.setIfInBounds_toArray, List.set_cons_zero, List.set_cons_succ]
                refine wpAnyT_takeY (i := 13) (v := ?v13_49) rfl (by kernel_rfl) (by kernel_rfl) (by kernel_rfl) (fun _ _ _ h => h) (by rfl) ?hy13_49 ?r13_49
                case hy13_49 => (intro w; go_simp; try (with_reducible rfl))
                case r13_49 =>
                try simp only [Act.put, List.setIfInBounds_toArray, List.set_cons_zero, List.set_cons_succ]
                refine wpAnyT_takeY (i := 14) (v := ?v14_50) rfl (by kernel_rfl) (by kernel_rfl) (by kernel_rfl) (fun _ _ _ h => h) (by rfl) ?hy14_50 ?r14_50
                case hy14_50 => (intro w; go_simp; try (with_reducible rfl))
                case r14_50 =>
                try simp only [Act.put, List.setIfInBounds_toArray, List.set_cons_zero, List.set_cons_succ]
                refine wpAnyT_takeY (i := 15) (v := ?v15_51) rfl (by kernel_rfl) (by kernel_rfl) (by kernel_rfl) (fun _ _ _ h => h) (by rfl) ?hy15_51 ?r15_51
                case hy15_51 => (intro w; go_simp; try (with_reducible rfl))
                case r15_51 =>
                try simp only [Act.put, List.setIfInBounds_toArray, List.set_cons_zero, List.set_cons_succ]
                refine wpAnyT_take (i := 2) (v := ?v2_52) rfl rfl (by kernel_rfl) (by kernel_rfl) (by kernel_rfl) (fun _ _ _ h => h) (by rfl) hS ?hy2_52 ?r2_52
                case hy2_52 => (intro w hSw; have e0 := bcellS (hSi _ hSw) z0; have e1 := bcellS (hSi _ hSw) z1; have e2 := bcellS (hSi _ hSw) z2; have e3 := bcellS (hSi _ hSw) z3; have e4 := bcellS (hSi _ hSw) z4; have e5 := bcellS (hSi _ hSw) z5; (try dsimp only at hSw); go_simp; try (with_reducible rfl))
                case r2_52 =>
                try simp only [Act.put, List.setIfInBounds_toArray, List.set_cons_zero, List.set_cons_succ]
                refine wpAnyT_take (i := 6) (v := ?v6_53) rfl rfl (by kernel_rfl) (by kernel_rfl) (by kernel_rfl) (fun _ _ _ h => h) (by rfl) hS ?hy6_53 ?r6_53
                case hy6_53 => (intro w hSw; have e0 := bcellS (hSi _ hSw) z0; have e1 := bcellS (hSi _ hSw) z1; have e2 := bcellS (hSi _ hSw) z2; have e3 := bcellS (hSi _ hSw) z3; have e4 := bcellS (hSi _ hSw) z4; have e5 := bcellS (hSi _ hSw) z5; (try dsimp only at hSw); go_simp; try (with_reducible rfl))
                case r6_53 =>
                try simp only [Act.put, List.setIfInBounds_toArray, List.set_cons_zero, List.set_cons_succ]
                refine wpAnyT_takeY (i := 7) (v := ?v7_54) rfl (by kernel_rfl) (by kernel_rfl) (by kernel_rfl) (fun _ _ _ h => h) (by rfl) ?hy7_54 ?r7_54
                case hy7_54 => (intro w; go_simp; try (with_reducible rfl))
                case r7_54 =>
                try simp only [Act.put, List.setIfInBounds_toArray, List.set_cons_zero, List.set_cons_succ]
                refine wpAnyT_take (i := 8) (v := ?v8_55) rfl rfl (by kernel_rfl) (by kernel_rfl) (by kernel_rfl) (fun _ _ _ h => h) (by rfl) hS ?hy8_55 ?r8_55
                case hy8_55 => (intro w hSw; have e0 := bcellS (hSi _ hSw) z0; have e1 := bcellS (hSi _ hSw) z1; have e2 := bcellS (hSi _ hSw) z2; have e3 := bcellS (hSi _ hSw) z3; have e4 := bcellS (hSi _ hSw) z4; have e5 := bcellS (hSi _ hSw) z5; (try dsimp only at hSw); go_simp; try (with_reducible rfl))
                case r8_55 =>
                try simp only [Act.put, List.setIfInBounds_toArray, List.set_cons_zero, List.set_cons_succ]
                refine wpAnyT_takeY (i := 9) (v := ?v9_56) rfl (by kernel_rfl) (by kernel_rfl) (by kernel_rfl) (fun _ _ _ h => h) (by rfl) ?hy9_56 ?r9_56
                case hy9_56 => (intro w; go_simp; try (with_reducible rfl))
                case r9_56 =>
                try simp only [Act.put, List.setIfInBounds_toArray, List.set_cons_zero, List.set_cons_succ]
                refine wpAnyT_takeY (i := 10) (v := ?v10_57) rfl (by kernel_rfl) (by kernel_rfl) (by kernel_rfl) (fun _ _ _ h => h) (by rfl) ?hy10_57 ?r10_57
                case hy10_57 => (intro w; go_simp; try (with_reducible rfl))
                case r10_57 =>
                try simp only [Act.put, List.setIfInBounds_toArray, List.set_cons_zero, List.set_cons_succ]
                refine wpAnyT_take (i := 12) (v := ?v12_58) rfl rfl (by kernel_rfl) (by kernel_rfl) (by kernel_rfl) (fun _ _ _ h => h) (by rfl) hS ?hy12_58 ?r12_58
                case hy12_58 => (intro w hSw; have e0 := bcellS (hSi _ hSw) z0; have e1 := bcellS (hSi _ hSw) z1; have e2 := bcellS (hSi _ hSw) z2; have e3 := bcellS (hSi _ hSw) z3; have e4 := bcellS (hSi _ hSw) z4; have e5 := bcellS (hSi _ hSw) z5; (try dsimp only at hSw); go_simp; try (with_reducible rfl))
                case r12_58 =>
                try simp only [Act.put, List.setIfInBounds_toArray, List.set_cons_zero, List.set_cons_succ]
                refine wpAnyT_take (i := 16) (v := ?v16_59) rfl rfl (by kernel_rfl) (by kernel_rfl) (by kernel_rfl) (fun _ _ _ h => h) (by rfl) hS ?hy16_59 ?r16_59
                case hy16_59 => (intro w hSw; have e0 := bcellS (hSi _ hSw) z0; have e1 := bcellS (hSi _ hSw) z1; have e2 := bcellS (hSi _ hSw) z2; have e3 := bcellS (hSi _ hSw) z3; have e4 := bcellS (hSi _ hSw) z4; have e5 := bcellS (hSi _ hSw) z5; (try dsimp only at hSw); go_simp; try (with_reducible rfl))
                case r16_59 =>
                try simp only [Act.put, List.setIfInBounds_toArray, List.set_cons_zero, List.set_cons_succ]
                refine wpAnyT_takeY (i := 17) (v := ?v17_60) rfl (by kernel_rfl) (by kernel_rfl) (by kernel_rfl) (fun _ _ _ h => h) (by rfl) ?hy17_60 ?r17_60
                case hy17_60 => (intro w; go_simp; try (with_reducible rfl))
                case r17_60 =>
                try simp only [Act.put, List.setIfInBounds_toArray, List.set_cons_zero, List.set_cons_succ]
                refine wpAnyT_take (i := 18) (v := ?v18_61) rfl rfl (by kernel_rfl) (by kernel_rfl) (by kernel_rfl) (fun _ _ _ h => h) (by rfl) hS ?hy18_61 ?r18_61
                case hy18_61 => (intro w hSw; have e0 := bcellS (hSi _ hSw) z0; have e1 := bcellS (hSi _ hSw) z1; have e2 := bcellS (hSi _ hSw) z2; have e3 := bcellS (hSi _ hSw) z3; have e4 := bcellS (hSi _ hSw) z4; have e5 := bcellS (hSi _ hSw) z5; (try dsimp only at hSw); go_simp; try (with_reducible rfl))
                case r18_61 =>
                try simp only [Act.put, List.setIfInBounds_toArray, List.set_cons_zero, List.set_cons_succ]
                refine wpAnyT_takeY (i := 19) (v := ?v19_62) rfl (by kernel_rfl) (by kernel_rfl) (by kernel_rfl) (fun _ _ _ h => h) (by rfl) ?hy19_62 ?r19_62
                case hy19_62 => (intro w; go_simp; try (with_reducible rfl))
                case r19_62 =>
                try simp only [Act.put, List.setIfInBounds_toArray, List.set_cons_zero, List.set_cons_succ]
                refine wpAnyT_takeY (i := 20) (v := ?v20_63) rfl (by kernel_rfl) (by kernel_rfl) (by kernel_rfl) (fun _ _ _ h => h) (by rfl) ?hy20_63 ?r20_63
                case hy20_63 => (intro w; go_simp; try (with_reducible rfl))
                case r20_63 =>
                try simp only [Act.put, List.setIfInBounds_toArray, List.set_cons_zero, List.set_cons_succ]
                refine wpAnyT_one (i := 21) rfl (by kernel_rfl) (by rfl) (fun K hK => ?_)
                go_simp
                refine (c_refSays op _ _ _ hop4).mono ?_
                rintro e w12 ⟨rfl, hw12⟩
                subst hw12
                try dsimp only
                refine hK _ _ (fun _ _ => hS) ?_
                clear hK K
                try simp only [Act.put, List.setIfInBounds_toArray, List.set_cons_zero, List.set_cons_succ]
                refine wpAnyT_done (by kernel_rfl) ?_ _
                refine NoPanic.normal ?_
                have hO5 := HO4.out.ext (Below.refl W11.heap.size W11).drew
                obtain ⟨W12, hW12⟩ : ∃ y, y = W11.drew := ⟨_, rfl⟩
                rw [← hW12] at hO5 ⊢
                clear hW12 z0 z1 z2 z3 z4 z5 hS hSof hSi
                have hz12 : Wc.heap.size ≤ W12.heap.size := hO5.kp.size
                have hfr : ∀ j, W12.heap.size ≤ j → Wc.heap.size ≤ j ∧ some j ≠ (Value.slice (some ⟨bL, oL, none⟩) t2.length dL).ownBlock ∧ some j ≠ (Value.slice (some ⟨bR, oR, none⟩) t2.length dR).ownBlock ∧ some j ≠ (Value.slice (some ⟨gN, 0, none⟩) (st.next.length + 1) cN').ownBlock := fun j hj =>
                  ⟨by omega, fun e => by have := (hO5.ol.lt _ e.symm).2; omega, fun e => by have := (hO5.or.lt _ e.symm).2; omega, fun e => by have := (hO5.on.lt _ e.symm).2; omega⟩
                obtain ⟨m0, m1', m2'⟩ := cells3 hO5.hb
                have m3' : ∀ j, W12.frozen? ⟨w4.heap.size, j, none⟩ = false := fun j => frozen_of_row W12 _ j _ _ hO5.hb
                have HO5 := Lib.hid hO5
                have hbw12 : w4.heap.size < W12.heap.size := (Array.getElem?_eq_some_iff.1 hO5.hb).1
                clear hO5
                try simp only [Int.natCast_pos]
                generalize sayB op (decide (0 < la)) (decide (0 < lb)) = sy at *
                cases sy
                rotate_left
                · have hBx12 : Below W12.heap.size W12 ((W12.alloc (.cells #[.int .i64 0] 3)).alloc (.cells #[.slice (some ⟨W12.heap.size, 0, none⟩) 1 1] 36)) := ((Below.refl _ _).alloc (Nat.le_refl _) (.cells #[.int .i64 0] 3)).alloc (by simp) (.cells #[.slice (some ⟨W12.heap.size, 0, none⟩) 1 1] 36)
                  have HO6 := Lib.hid (HO5.out.ext hBx12)
                  have hbx := (hBx12.block _ (Array.getElem?_eq_some_iff.1 HO5.out.hb).1).trans HO5.out.hb
                  have hzx := hBx12.size
                  clear hBx12
                  go_wp2_with (at_builtin
                               refine own_appendS KintF ((W12.alloc (.cells #[.int .i64 0] 3)).alloc (.cells #[.slice (some ⟨W12.heap.size, 0, none⟩) 1 1] 36)) Wc.heap.size rfl _ _ 23 36 (.slice none 0 0) 24 rfl Tryz.underlying23 info_ints rfl (by decide) (by decide) (.slice PM st.marks.length cM) st.marks [[0]] (some ⟨W12.heap.size + 1, 0, none⟩) 1 (fun j => Wc.heap.size ≤ j ∧ some j ≠ (Value.slice (some ⟨bL, oL, none⟩) t2.length dL).ownBlock ∧ some j ≠ (Value.slice (some ⟨bR, oR, none⟩) t2.length dR).ownBlock ∧ some j ≠ (Value.slice (some ⟨gN, 0, none⟩) (st.next.length + 1) cN').ownBlock) (fun j => W12.heap.size ≤ j) rfl rfl (by have := box_S KintF (W12.alloc (.cells #[.int .i64 0] 3)) 36 [.slice (some ⟨W12.heap.size, 0, none⟩) 1 1] [(0 : Int)] (fun j => W12.heap.size ≤ j) (KintF.mono (fun _ h => h) (KintF.step (OwnS.sliceF (OwnS.box Kint 3 W12 [.int .i64 0] 0 W12.heap.size (fun j => W12.heap.size ≤ j) (Nat.le_refl _) (Nat.le_refl _) ⟨rfl, by unfold inI64; omega⟩)) fun b _ hl => Below.heap_alloc _ _ b hl)) (by simp); simpa using this) (fun q c h => KintF.mono (fun b hb => ⟨hfr b hb, fun e => by have := (HO5.out.om.lt _ e.symm).2; omega⟩) h) HO6.out.om (fun j hj => hfr j (Nat.le_trans hzx hj)) (Nat.le_trans hz12 hzx) (by simp; omega) ?_
                               intro vM' w14 hO14 hM14 hv14
                               obtain ⟨gM, cM', rfl⟩ := hv14 (by simp)
                               have hb14 := hM14.heap hbx hneM
                               have HO7 := Lib.hid (HO6.out.putM hO14 hM14)
                               obtain ⟨n0, n1, n2⟩ := cells3 hb14
                               have n3 : ∀ j, w14.frozen? ⟨w4.heap.size, j, none⟩ = false := fun j => frozen_of_row w14 _ j _ _ hb14
                               clear hO14 hM14 hb14)
                  clear n0 n1 n2 n3
                  have hO7 := HO7.out
                  rw [List.length_append] at hO7
                  go_roundg (go0 - 1)
                  case measure => have := HG.out; omega
                  case rel => exact ⟨⟨t2, st.next ++ [X], st.marks ++ [[0]]⟩, _, _, by simp, HR.out.trans (of_step (by have := HG.out; omega) hlt (by rw [HST.out, HMK.out]; try rfl)), by have := HG.out; simp; omega, htl2, by simp; omega, by have := HML.out; simp; omega, HRg2.out, hO7⟩
                · have hbox : KintF.S (W12.alloc (.cells #[.slice none 0 0] 36)) (fun j => W12.heap.size ≤ j) (some ⟨W12.heap.size, 0, none⟩) [([] : List Int)] := (box_S KintF W12 36 [.slice none 0 0] ([] : List Int) (fun j => W12.heap.size ≤ j) (KintF.mono (fun _ h => h) (OwnS.sliceF (OwnS.nil Kint 3 _ W12.heap.size (fun j => W12.heap.size ≤ j)))) (Nat.le_refl _))
                  have hBx12 : Below W12.heap.size W12 (W12.alloc (.cells #[.slice none 0 0] 36)) := (Below.refl _ _).alloc (Nat.le_refl _) (.cells #[.slice none 0 0] 36)
                  have HO6 := Lib.hid (HO5.out.ext hBx12)
                  have hbx := (hBx12.block _ (Array.getElem?_eq_some_iff.1 HO5.out.hb).1).trans HO5.out.hb
                  have hzx := hBx12.size
                  clear hBx12
                  go_wp2_with (at_builtin
                               refine own_appendS KintF (W12.alloc (.cells #[.slice none 0 0] 36)) Wc.heap.size rfl _ _ 23 36 (.slice none 0 0) 24 rfl Tryz.underlying23 info_ints rfl (by decide) (by decide) (.slice PM st.marks.length cM) st.marks [[]] (some ⟨W12.heap.size, 0, none⟩) 1 (fun j => Wc.heap.size ≤ j ∧ some j ≠ (Value.slice (some ⟨bL, oL, none⟩) t2.length dL).ownBlock ∧ some j ≠ (Value.slice (some ⟨bR, oR, none⟩) t2.length dR).ownBlock ∧ some j ≠ (Value.slice (some ⟨gN, 0, none⟩) (st.next.length + 1) cN').ownBlock) (fun j => W12.heap.size ≤ j) rfl rfl hbox (fun q c h => KintF.mono (fun b hb => ⟨hfr b hb, fun e => by have := (HO5.out.om.lt _ e.symm).2; omega⟩) h) HO6.out.om (fun j hj => hfr j (Nat.le_trans hzx hj)) (Nat.le_trans hz12 hzx) (by simp; omega) ?_
                               intro vM' w14 hO14 hM14 hv14
                               obtain ⟨gM, cM', rfl⟩ := hv14 (by simp)
                               have hb14 := hM14.heap hbx hneM
                               have HO7 := Lib.hid (HO6.out.putM hO14 hM14)
                               obtain ⟨n0, n1, n2⟩ := cells3 hb14
                               have n3 : ∀ j, w14.frozen? ⟨w4.heap.size, j, none⟩ = false := fun j => frozen_of_row w14 _ j _ _ hb14
                               clear hO14 hM14 hb14)
                  clear n0 n1 n2 n3
                  have hO7 := HO7.out
                  rw [List.length_append] at hO7
                  go_roundg (go0 - 1)
                  case measure => have := HG.out; omega
                  case rel => exact ⟨⟨t2, st.next ++ [X], st.marks ++ [[]]⟩, _, _, by simp, HR.out.trans (of_step (by have := HG.out; omega) hlt (by rw [HST.out, HMK.out]; try rfl)), by have := HG.out; simp; omega, htl2, by simp; omega, by have := HML.out; simp; omega, HRg2.out, hO7⟩
          · have hle : ¬ ((st.next.length : Int) < st.todo.length) := by omega
            have hres : ofB a b op fuel = (⟨refClasses (a.cls ++ b.cls), st.next, st.marks⟩, 0) := by
              have hst : outRun a b op fuel.toNat (allB a b) gk st = some st := by
                cases gk with
                | zero => rfl
                | succ g => unfold outRun; rw [if_neg hlt]
              have hop' : ¬ (op = 0 ∨ 4 < op) := by omega
              have hfu' : ¬ (fuel < 0 ∨ fuel > 4000) := by omega
              have hne2 : ¬ fuel = 0 := by omega
              unfold ofB prodB
              rw [HA0, HB0, if_neg (by simp), if_neg hop', if_neg hfu', if_neg hne2, HR.out, hst, ← all_ref HA0 HB0]; rfl
            have HRES := Lib.hid hres
            clear hres
            have hBo : Below w3.heap.size w3 wr := HB3c.out.trans (HO.out.kp.below hzc (fun j hj e => by omega))
            have hB0B := hB03.trans (hBo.mono hB03.size)
            have q8 := (hB0B.block _ (Array.getElem?_eq_some_iff.1 HQ2.out).1).trans HQ2.out
            have HBw := Lib.hid (hBw3.trans (hBo.mono hBw3.size))
            obtain ⟨z0, z1, z2⟩ := cells3 q8
            have zf : ∀ j, wr.frozen? ⟨w.heap.size + 1 + 1, j, none⟩ = false := fun j => frozen_of_row wr _ j _ _ q8
            obtain ⟨y0, y1, y2⟩ := cells3 HO.out.hb
            have hz8 : w.heap.size + 1 + 1 < w3.heap.size := by omega
            have HH := Lib.hid HO.out
            clear hBo hB0B q8 hrl
            go_wp2
            obtain ⟨v0, v1, v2, hBF, hoth⟩ := set3 wr (w.heap.size + 1 + 1) 42 _ _ _ (.slice AC (refClasses (a.cls ++ b.cls)).length cC) (.slice PN st.next.length cN) (.slice PM st.marks.length cM) z0 z1 z2
            refine bodyPost_ret (v := .tuple #[dfaV ⟨AC, cC, PN, cN, PM, cM⟩ ⟨refClasses (a.cls ++ b.cls), st.next, st.marks⟩, .int .i64 0]) (by simp [results, Tryz.results17, go_sem, v0, v1, v2, dfaV, dfaC]) rfl ⟨⟨AC, cC, PN, cN, PM, cM⟩, by rw [HRES.out], ?_, HBw.out.trans (hBF w.heap.size (by omega))⟩
            rw [HRES.out]
            have hw3 : w.heap.size ≤ Wc.heap.size := by omega
            have o1 := ((HC.out.bound.keep HH.out.kp fun j hj _ e => by have := hj.1; omega).mono fun j hj => hj.1).step (w1 := (((wr.setCell ⟨w.heap.size + 1 + 1, 0, none⟩ (.slice AC (refClasses (a.cls ++ b.cls)).length cC)).setCell ⟨w.heap.size + 1 + 1, 1, none⟩ (.slice PN st.next.length cN)).setCell ⟨w.heap.size + 1 + 1, 2, none⟩ (.slice PM st.marks.length cM))) fun j hj _ => hoth j (by omega)
            have o2 := HH.out.on.step (w1 := (((wr.setCell ⟨w.heap.size + 1 + 1, 0, none⟩ (.slice AC (refClasses (a.cls ++ b.cls)).length cC)).setCell ⟨w.heap.size + 1 + 1, 1, none⟩ (.slice PN st.next.length cN)).setCell ⟨w.heap.size + 1 + 1, 2, none⟩ (.slice PM st.marks.length cM))) fun j hj _ => hoth j (by have := hj.1; omega)
            have o3 := HH.out.om.step (w1 := (((wr.setCell ⟨w.heap.size + 1 + 1, 0, none⟩ (.slice AC (refClasses (a.cls ++ b.cls)).length cC)).setCell ⟨w.heap.size + 1 + 1, 1, none⟩ (.slice PN st.next.length cN)).setCell ⟨w.heap.size + 1 + 1, 2, none⟩ (.slice PM st.marks.length cM))) fun j hj _ => hoth j (by have := hj.1; omega)
            exact ⟨(o1.lower (by omega)).mono fun j hj => by omega, (o2.lower hw3).mono fun j hj => Nat.le_trans hw3 hj.1, (o3.lower hw3).mono fun j hj => Nat.le_trans hw3 hj.1⟩
end Go.Proofs
