/- An automaton for the reference. -/
import Derived.Test.YtmfijgigfianeaaGreatGrOfU
import Derived.Test.YtmfijgigfianeaaGreatGrClass
set_option linter.unusedVariables false
set_option linter.unusedSimpArgs false
namespace Rp
open Go Go.RowKit Go.Proofs
theorem cells4 {w : World} {b : Nat} {z0 z1 z2 z3 : Value} {t : TypeId} (h : w.heap[b]? = some (.cells #[z0, z1, z2, z3] t (0, 0))) :
    w.cell? ⟨b, 0, none⟩ = some z0 ∧ w.cell? ⟨b, 1, none⟩ = some z1 ∧ w.cell? ⟨b, 2, none⟩ = some z2 ∧ w.cell? ⟨b, 3, none⟩ = some z3 := ⟨cell_of_row w _ 0 _ _ _ h, cell_of_row w _ 1 _ _ _ h, cell_of_row w _ 2 _ _ _ h, cell_of_row w _ 3 _ _ _ h⟩
/-- What the loads of a round ask: the automaton that is made, and a set. -/
theorem two_rows (b g : Nat) (X Y : Obj) : ∃ S : World → Prop, (∀ w, S w → w.heap[b]? = some X ∧ w.heap[g]? = some Y) ∧ ∀ w, w.heap[b]? = some X → w.heap[g]? = some Y → S w := ⟨fun w => w.heap[b]? = some X ∧ w.heap[g]? = some Y, fun _ h => h, fun _ h k => ⟨h, k⟩⟩
theorem one_row (b : Nat) (X : Obj) : ∃ S : World → Prop, (∀ w, S w → w.heap[b]? = some X) ∧ ∀ w, w.heap[b]? = some X → S w := ⟨fun w => w.heap[b]? = some X, fun _ h => h, fun _ h => h⟩
end Rp
namespace Go.Proofs
open Go.RowKit Go.Shelf Rp Go.Maps
attribute [local go_sem] Oper.semAt_some
set_option maxRecDepth 100000 in
set_option maxHeartbeats 3200000 in
theorem c_theirs0 (A1 A2 A3 : Option Addr) (k1 k2 k3 : Nat) (d : Dfa) (F : Nat → Prop) (w : World) (s1 : Kset.S w F A1 d.cls) (s2 : Kints.S w F A2 d.next) (s3 : Kints.S w F A3 d.marks) (hs : DfaS d) :
    Calls Tryz.prog 15 #[.agg #[.slice A1 d.cls.length k1, .slice A2 d.next.length k2, .slice A3 d.marks.length k3]] w
      fun e w' => ∃ h', e = .returned (dfaV h' d) ∧ DfaW w' w.heap.size h' d ∧ Below w.heap.size w w' := by
  go_enter Tryz.func15, Tryz.ntmps15
  go_upto_region 2 with (fail)
  refine wp_name fun W0 hW0 => ?_
  have q0 : W0.heap[w.heap.size]? = some (.cells #[.slice A1 d.cls.length k1, .slice A2 d.next.length k2, .slice A3 d.marks.length k3] 25 (0, 0)) := by
    rw [← hW0]; exact (Below.heap_alloc _ _ _ (by simp; omega)).trans ((Below.heap_alloc _ _ _ (by simp)).trans (World.alloc_heap_new w _))
  have q1 : W0.heap[w.heap.size + 1]? = some (.cells #[.slice none 0 0, .slice none 0 0, .slice none 0 0] 42 (0, 0)) := by
    rw [← hW0]; refine (Below.heap_alloc _ _ _ (by simp)).trans ?_; have := World.alloc_heap_new (w.alloc (.cells #[.slice A1 d.cls.length k1, .slice A2 d.next.length k2, .slice A3 d.marks.length k3] 25 (0, 0))) (.cells #[.slice none 0 0, .slice none 0 0, .slice none 0 0] 42 (0, 0)); simpa using this
  have q2 : W0.heap[w.heap.size + 1 + 1]? = some (.cells #[.slice none 0 0, .slice none 0 0, .slice none 0 0] 42 (0, 0)) := by
    rw [← hW0]; have := World.alloc_heap_new ((w.alloc (.cells #[.slice A1 d.cls.length k1, .slice A2 d.next.length k2, .slice A3 d.marks.length k3] 25 (0, 0))).alloc (.cells #[.slice none 0 0, .slice none 0 0, .slice none 0 0] 42 (0, 0))) (.cells #[.slice none 0 0, .slice none 0 0, .slice none 0 0] 42 (0, 0)); simpa using this
  have hE0 : Ext w W0 := by rw [← hW0]; exact (((Ext.refl _).alloc _).alloc _).alloc _
  have hz0 : W0.heap.size = w.heap.size + 3 := by rw [← hW0]; simp
  clear hW0
  obtain ⟨b0, b1, b2⟩ := cells3 q0
  have HQ0 := Lib.hid q0
  have HQ1 := Lib.hid q1
  have HQ2 := Lib.hid q2
  have hcb := hs.b1
  have hnb := hs.b2
  have hmb := hs.b3
  have HS := Lib.hid hs
  clear q0 q1 q2 hs
  go_wp2
  go_loopg [13] (d.cls.length + 1) (fun gk vk wr => ∃ (k : Nat) (vC : Value), vk = .int .i64 (k : Int) ∧ k ≤ d.cls.length ∧ gk + k = d.cls.length + 1 ∧
    OwnS Kref 75 wr W0.heap.size (fun j => W0.heap.size ≤ j) vC (d.cls.take k) ∧ wr.heap[w.heap.size + 1 + 1]? = some (.cells #[vC, .slice none 0 0, .slice none 0 0] 42 (0, 0)) ∧ Kp (fun j => j = w.heap.size + 1 + 1) W0 wr)
  case atStart => exact ⟨0, .slice none 0 0, rfl, by omega, by omega, OwnS.nil _ _ _ _ _, HQ2.out, Kp.refl _ _⟩
  case round =>
    obtain ⟨k, vC, rfl, hk, hgk, hC, hbo, hKp⟩ := hrel
    obtain ⟨AC, cC, rfl, -, -, -⟩ := hC.reads
    have HG := Lib.hid hgk
    have hk0 : (0 : Int) ≤ k := by omega
    have HC := Lib.hid hC
    have HBO := Lib.hid hbo
    have HKp := Lib.hid hKp
    clear hgk hC hKp hbo
    by_cases hlt : k < d.cls.length
    · have hlt' : (k : Int) < d.cls.length := by omega
      have hBr : Below w.heap.size w wr := hE0.below.trans (HKp.out.below hE0.size (fun j hj e => by omega))
      obtain ⟨b5, o5, rfl, -, -, p0, p1, p2, p3⟩ := S_set (S_below s1 hBr) hlt
      have hst := fun W' => c_words d.cls[k] W'
      have htk : d.cls.take (k + 1) = d.cls.take k ++ [d.cls[k]] := List.take_succ_eq_append_getElem hlt
      have htl : (d.cls.take k).length ≤ d.cls.length := by rw [List.length_take]; omega
      have HTK := Lib.hid htk
      clear htk
      generalize d.cls[k] = ck at *
      generalize d.cls.take k = tk at *
      have hbs := run_one_ref ck
      go_upto_region 5 with (fail)
      refine wp_name fun W4 hW4 => ?_
      have hg4 : W4.heap[wr.heap.size]? = some (.cells (setC ck) 33 (0, 0)) := by rw [← hW4]; exact World.alloc_heap_new wr _
      have hb4 : W4.heap[w.heap.size + 1 + 1]? = some (.cells #[.slice AC tk.length cC, .slice none 0 0, .slice none 0 0] 42 (0, 0)) := by
        rw [← hW4]; exact (Below.heap_alloc _ _ _ (Array.getElem?_eq_some_iff.1 HBO.out).1).trans HBO.out
      have hB4 : Below wr.heap.size wr W4 := by rw [← hW4]; exact (Below.refl _ _).alloc (Nat.le_refl _) _
      have hz4 : wr.heap.size < W4.heap.size := by rw [← hW4]; simp
      have hC4 := HC.out.below hB4
      have hK4 := HKp.out.trans (.of_below hB4)
      clear hW4
      obtain ⟨SS, hSi, hSm⟩ := two_rows (w.heap.size + 1 + 1) wr.heap.size (.cells #[.slice AC tk.length cC, .slice none 0 0, .slice none 0 0] 42 (0, 0)) (.cells (setC ck) 33 (0, 0))
      have hS : SS W4.drew := hSm _ hb4 hg4
      have HB4 := Lib.hid hb4
      have HG4 := Lib.hid hg4
      have HC4 := Lib.hid hC4
      have HK4 := Lib.hid hK4
      have hbz : w.heap.size + 1 + 1 < wr.heap.size := (Array.getElem?_eq_some_iff.1 HBO.out).1
      have hcw : ∀ j, (Value.slice AC tk.length cC).ownBlock = some j → j < wr.heap.size := fun j hj => (HC.out.lt j hj).2
      have HCW := Lib.hid hcw
      have hW0r : W0.heap.size ≤ wr.heap.size := HKp.out.size
      clear hb4 hg4 hC4 hK4 hB4 hcw
      refine wp_region_noPanic (wp_region_T SS [1, 2] (by kernel_rfl) ?_)
      refine wpAnyT_takeY (i := 0) (v := ?v0_1) rfl (by kernel_rfl) (by kernel_rfl) (by kernel_rfl) (fun _ _ _ h => h) (by rfl) ?hy0_1 ?r0_1
      case hy0_1 => (intro w; go_simp; try (with_reducible rfl))
      case r0_1 =>
      try simp only [Act.put, List.setIfInBounds_toArray, List.set_cons_zero, List.set_cons_succ]
      refine wpAnyT_take (i := 1) (v := ?v1_2) rfl rfl (by kernel_rfl) (by kernel_rfl) (by kernel_rfl) (fun _ _ _ h => h) (by rfl) hS ?hy1_2 ?r1_2
      case hy1_2 => (intro w hSw; obtain ⟨e0, _, _⟩ := cells3 (hSi _ hSw).1; obtain ⟨f0, f1, f2, f3⟩ := cells4 (hSi _ hSw).2; (try dsimp only at hSw); go_simp; try (with_reducible rfl))
      case r1_2 =>
      try simp only [Act.put, List.setIfInBounds_toArray, List.set_cons_zero, List.set_cons_succ]
      refine wpAnyT_take (i := 2) (v := ?v2_3) rfl rfl (by kernel_rfl) (by kernel_rfl) (by kernel_rfl) (fun _ _ _ h => h) (by rfl) hS ?hy2_3 ?r2_3
      case hy2_3 => (intro w hSw; obtain ⟨e0, _, _⟩ := cells3 (hSi _ hSw).1; obtain ⟨f0, f1, f2, f3⟩ := cells4 (hSi _ hSw).2; (try dsimp only at hSw); go_simp; try (with_reducible rfl))
      case r2_3 =>
      try simp only [Act.put, List.setIfInBounds_toArray, List.set_cons_zero, List.set_cons_succ]
      refine wpAnyT_one (i := 3) rfl (by kernel_rfl) (by rfl) (fun K hK => ?_)
      go_simp
      refine (hst W4.drew).mono ?_
      rintro e w6 ⟨rfl, hB6⟩
      try dsimp only
      have hB46 : Below W4.heap.size W4 w6 := (Below.refl _ W4).drew.trans hB6
      have hb6 := (hB46.block _ (Array.getElem?_eq_some_iff.1 HB4.out).1).trans HB4.out
      have hg6 := (hB46.block _ hz4).trans HG4.out
      refine hK _ _ (fun _ _ => hSm _ hb6 hg6) ?_
      have HB6 := Lib.hid hb6
      have HG6 := Lib.hid hg6
      have HC6 := Lib.hid (HC4.out.below hB46)
      have HK6 := Lib.hid (HK4.out.trans (.of_below hB46))
      have hz6 := hB46.size
      clear hb6 hg6 hB46 hB6
      clear hK K
      try simp only [Act.put, List.setIfInBounds_toArray, List.set_cons_zero, List.set_cons_succ]
      refine wpAnyT_one (i := 4) rfl (by kernel_rfl) (by rfl) (fun K hK => ?_)
      refine wp_build_row 40 _ rfl (.agg (setA ck)) _ (by rfl) (hbs _) ?_
      refine hK _ _ (fun _ _ => hSm _ ((Below.heap_alloc w6 _ _ (Array.getElem?_eq_some_iff.1 HB6.out).1).trans HB6.out) ((Below.heap_alloc w6 _ _ (Array.getElem?_eq_some_iff.1 HG6.out).1).trans HG6.out)) ?_
      clear hK K
      try simp only [Act.put, List.setIfInBounds_toArray, List.set_cons_zero, List.set_cons_succ]
      refine wpAnyT_one (i := 5) rfl (by kernel_rfl) (by rfl) (fun K hK => ?_)
      refine wp_own_appendS Kref (w6.alloc (.cells (setA ck) 75)) W0.heap.size _ _ 40 75 (.agg (Array.replicate 256 (.int .i64 0))) 2048 rfl Tryz.underlying40 info_ref cells_ref (by decide) (by decide) (.slice AC tk.length cC) tk [ck] (some ⟨w6.heap.size, 0, none⟩) 1 (fun j => W0.heap.size ≤ j) (fun _ => True) rfl rfl
        (box_S Kref w6 75 (setA ck).toList ck _ rfl trivial) (fun _ _ h => h) (HC6.out.alloc _) (fun j hj => ?_) ?_ (by simp; omega) ?_
      · have := HK6.out.size; simp at hj; omega
      · have := HK6.out.size; simp; omega
      intro v9 w9 hO9 hM9 hv9
      obtain ⟨g9, c9, rfl⟩ := hv9 (by simp)
      have hne9 : some (w.heap.size + 1 + 1) ≠ (Value.slice AC tk.length cC).ownBlock := fun e => by have := (HC.out.lt _ e.symm).1; omega
      have hne9' : some wr.heap.size ≠ (Value.slice AC tk.length cC).ownBlock := fun e => by have := HCW.out _ e.symm; omega
      have hbo9 := hM9.heap ((Below.heap_alloc w6 (.cells (setA ck) 75) _ (Array.getElem?_eq_some_iff.1 HB6.out).1).trans HB6.out) hne9
      have hqg9 := hM9.heap ((Below.heap_alloc w6 (.cells (setA ck) 75) _ (Array.getElem?_eq_some_iff.1 HG6.out).1).trans HG6.out) hne9'
      have hK9 : Kp (fun j => j = w.heap.size + 1 + 1) W0 w9 := (HK6.out.alloc _).mov_after hM9 fun j hj => .inr (HC.out.1 j hj)
      refine hK _ _ (fun _ _ => hSm _ hbo9 hqg9) ?_
      have e9 : (tk ++ [ck]).length = tk.length + 1 := by simp
      rw [e9] at hO9
      obtain ⟨f0, f1, f2⟩ := cells3 hbo9
      have f3 : ∀ j, w9.frozen? ⟨w.heap.size + 1 + 1, j, none⟩ = false := fun j => frozen_of_row w9 _ j _ _ hbo9
      have HO9 := Lib.hid hO9
      have HB9 := Lib.hid hbo9
      have HK9 := Lib.hid hK9
      clear hO9 hM9 hbo9 hqg9 hK9 hne9 hne9'
      clear hK K
      try simp only [Act.put, List.setIfInBounds_toArray, List.set_cons_zero, List.set_cons_succ]
      refine wpAnyT_takeY (i := 6) (v := ?v6_4) rfl (by kernel_rfl) (by kernel_rfl) (by kernel_rfl) (fun _ _ _ h => h) (by rfl) ?hy6_4 ?r6_4
      case hy6_4 => (intro w; go_simp; try (with_reducible rfl))
      case r6_4 =>
      try simp only [Act.put, List.setIfInBounds_toArray, List.set_cons_zero, List.set_cons_succ]
      refine wpAnyT_one (i := 7) rfl (by kernel_rfl) (by rfl) (fun K hK => ?_)
      go_simp
      refine hK _ _ (no_need (by kernel_rfl)) ?_
      clear hK K
      try simp only [Act.put, List.setIfInBounds_toArray, List.set_cons_zero, List.set_cons_succ]
      refine wpAnyT_done (by kernel_rfl) ?_ _
      refine NoPanic.normal ?_
      clear f0 f1 f2 f3
      go_wp2
      go_roundg (gk - 1)
      case measure => have := HG.out; omega
      case rel =>
        refine ⟨k + 1, _, by go_num, by omega, by have := HG.out; omega, ?_, by simpa using setCell_heap w9 (w.heap.size + 1 + 1) 0 _ _ _ (.slice (some ⟨g9, 0, none⟩) (tk.length + 1) c9) HB9.out, HK9.out.setCell ⟨w.heap.size + 1 + 1, 0, none⟩ rfl _⟩
        rw [HTK.out]
        exact HO9.out.step fun j hj _ => Below.heap_setCell _ _ _ j (by show j ≠ w.heap.size + 1 + 1; omega)
    · obtain rfl : k = d.cls.length := by omega
      have hge : ¬ ((d.cls.length : Int) < d.cls.length) := by omega
      rw [List.take_length] at HC HBO
      clear HG
      have hBWa : Below w.heap.size w wr := hE0.below.trans (HKp.out.below hE0.size (fun j hj e => by omega))
      have hqa := HKp.out.heap HQ0.out (by omega)
      obtain ⟨c0, c1, c2⟩ := cells3 hqa
      have HQa := Lib.hid hqa
      have HKa := Lib.hid HKp.out
      have HBOWa := Lib.hid HBO.out
      have hbz0 : w.heap.size + 1 + 1 < wr.heap.size := (Array.getElem?_eq_some_iff.1 HBO.out).1
      clear hqa b0 b1 b2
      go_wp2
      obtain ⟨Wa, rfl⟩ : ∃ x : World, x = wr := ⟨_, rfl⟩
      go_loopg [28] (d.next.length + 1) (fun gk vk wr => ∃ (k : Nat) (vX : Value), vk = .int .i64 (k : Int) ∧ k ≤ d.next.length ∧ gk + k = d.next.length + 1 ∧
        OwnS KintF 36 wr Wa.heap.size (fun j => Wa.heap.size ≤ j) vX (d.next.take k) ∧ wr.heap[w.heap.size + 1 + 1]? = some (.cells #[.slice AC d.cls.length cC, vX, .slice none 0 0] 42 (0, 0)) ∧ Kp (fun j => j = w.heap.size + 1 + 1) Wa wr)
      case atStart => exact ⟨0, .slice none 0 0, rfl, by omega, by omega, OwnS.nil _ _ _ _ _, HBOWa.out, Kp.refl _ _⟩
      case round =>
        obtain ⟨k, vX, rfl, hk, hgk, hC, hbo, hKp⟩ := hrel
        obtain ⟨AN, cN, rfl, -, -, -⟩ := hC.reads
        have HG := Lib.hid hgk
        have hk0 : (0 : Int) ≤ k := by omega
        have hBr : Below w.heap.size w wr := hBWa.trans (hKp.below hBWa.size (fun j hj e => by omega))
        have HN := Lib.hid hC
        have HBN := Lib.hid hbo
        have HKN := Lib.hid hKp
        clear hgk hC hKp hbo
        by_cases hlt : k < d.next.length
        · have hlt' : (k : Int) < d.next.length := by omega
          obtain ⟨b5, o5, B5, d5, rfl, -, -, p5, -, -, t5⟩ := S_slice (S_below s2 hBr) hlt
          have hxl := HS.out.b4 _ (List.getElem_mem hlt)
          have htk : d.next.take (k + 1) = d.next.take k ++ [d.next[k]] := List.take_succ_eq_append_getElem hlt
          have htl : (d.next.take k).length ≤ d.next.length := by rw [List.length_take]; omega
          have hcl := fun W' (hW' : Below wr.heap.size wr W') => c_cloneInt B5 d5 d.next[k] _ W' (t5.bound.step fun b hb _ => hW'.block b hb.2) (fun b hb => Nat.lt_of_lt_of_le hb.2 hW'.size) hxl
          have HTK := Lib.hid htk
          have hcw : ∀ j, (Value.slice AN (d.next.take k).length cN).ownBlock = some j → j < wr.heap.size := fun j hj => (HN.out.lt j hj).2
          have HCW := Lib.hid hcw
          clear htk hcw t5
          generalize d.next[k] = x at *
          generalize d.next.take k = tk at *
          obtain ⟨SS, hSi, hSm⟩ := one_row (w.heap.size + 1 + 1) (.cells #[.slice AC d.cls.length cC, (.slice AN tk.length cN), .slice none 0 0] 42 (0, 0))
          have hS : SS wr.drew := hSm _ HBN.out
          have hWr : Wa.heap.size ≤ wr.heap.size := HKN.out.size
          have hbz : w.heap.size + 1 + 1 < wr.heap.size := (Array.getElem?_eq_some_iff.1 HBN.out).1
          go_wp2
          refine wp_region_noPanic (wp_region_T SS [1] (by kernel_rfl) ?_)
          refine wpAnyT_takeY (i := 0) (v := ?v0_5) rfl (by kernel_rfl) (by kernel_rfl) (by kernel_rfl) (fun _ _ _ h => h) (by rfl) ?hy0_5 ?r0_5
          case hy0_5 => (intro w; go_simp; try (with_reducible rfl))
          case r0_5 =>
          try simp only [Act.put, List.setIfInBounds_toArray, List.set_cons_zero, List.set_cons_succ]
          refine wpAnyT_takeY (i := 2) (v := ?v2_6) rfl (by kernel_rfl) (by kernel_rfl) (by kernel_rfl) (fun _ _ _ h => h) (by rfl) ?hy2_6 ?r2_6
          case hy2_6 => (intro w; go_simp; try (with_reducible rfl))
          case r2_6 =>
          try simp only [Act.put, List.setIfInBounds_toArray, List.set_cons_zero, List.set_cons_succ]
          refine wpAnyT_take (i := 1) (v := ?v1_7) rfl rfl (by kernel_rfl) (by kernel_rfl) (by kernel_rfl) (fun _ _ _ h => h) (by rfl) hS ?hy1_7 ?r1_7
          case hy1_7 => (intro w hSw; obtain ⟨e0, e1, e2⟩ := cells3 (hSi _ hSw); (try dsimp only at hSw); go_simp; try (with_reducible rfl))
          case r1_7 =>
          try simp only [Act.put, List.setIfInBounds_toArray, List.set_cons_zero, List.set_cons_succ]
          refine wpAnyT_one (i := 3) rfl (by kernel_rfl) (by rfl) (fun K hK => ?_)
          go_simp
          refine (hcl wr.drew (Below.refl _ _).drew).mono ?_
          rintro e w6 ⟨v6, rfl, hO6, hB6⟩
          obtain ⟨A6, c6, rfl, -, -, -⟩ := hO6.reads
          try dsimp only
          have hB46 : Below wr.heap.size wr w6 := (Below.refl _ wr).drew.trans hB6
          have hEl : KintF.R w6 (fun j => wr.heap.size ≤ j) x [.slice A6 x.length c6] := (OwnS.tight tightInt hO6).sliceF
          have hb6 := (hB46.block _ hbz).trans HBN.out
          refine hK _ _ (fun _ _ => hSm _ hb6) ?_
          have HB6 := Lib.hid hb6
          have HX6 := Lib.hid (HN.out.below hB46)
          have HK6 := Lib.hid (HKN.out.trans (.of_below hB46))
          have HEL := Lib.hid hEl
          have hz6 := hB46.size
          clear hb6 hB46 hB6 hO6 hEl
          clear hK K
          try simp only [Act.put, List.setIfInBounds_toArray, List.set_cons_zero, List.set_cons_succ]
          refine wpAnyT_one (i := 4) rfl (by kernel_rfl) (by rfl) (fun K hK => ?_)
          go_simp
          refine hK _ _ (fun _ _ => hSm _ ((Below.heap_alloc w6 _ _ (Array.getElem?_eq_some_iff.1 HB6.out).1).trans HB6.out)) ?_
          clear hK K
          try simp only [Act.put, List.setIfInBounds_toArray, List.set_cons_zero, List.set_cons_succ]
          refine wpAnyT_one (i := 5) rfl (by kernel_rfl) (by rfl) (fun K hK => ?_)
          refine wp_own_appendS KintF (w6.alloc (.cells #[.slice A6 x.length c6] 36)) Wa.heap.size _ _ 23 36 (.slice none 0 0) 24 rfl Tryz.underlying23 info_ints rfl (by decide) (by decide) (.slice AN tk.length cN) tk [x] (some ⟨w6.heap.size, 0, none⟩) 1 (fun j => Wa.heap.size ≤ j) (fun j => wr.heap.size ≤ j) rfl rfl
            (box_S KintF w6 36 [.slice A6 x.length c6] x (fun j => wr.heap.size ≤ j) (KintF.step HEL.out fun b _ hl => Below.heap_alloc _ _ b hl) hz6) (fun q c h => KintF.mono (fun b hb => ⟨Nat.le_trans hWr hb, fun e => by have := HCW.out _ e.symm; omega⟩) h) (HX6.out.alloc _) (fun j hj => ?_) ?_ (by simp; omega) ?_
          · simp at hj; omega
          · simp; omega
          intro v9 w9 hO9 hM9 hv9
          obtain ⟨g9, c9, rfl⟩ := hv9 (by simp)
          have hne9 : some (w.heap.size + 1 + 1) ≠ (Value.slice AN tk.length cN).ownBlock := fun e => by have := (HN.out.lt _ e.symm).1; omega
          have hbo9 := hM9.heap ((Below.heap_alloc w6 (.cells #[.slice A6 x.length c6] 36) _ (Array.getElem?_eq_some_iff.1 HB6.out).1).trans HB6.out) hne9
          have hK9 : Kp (fun j => j = w.heap.size + 1 + 1) Wa w9 := (HK6.out.alloc _).mov_after hM9 fun j hj => .inr (HN.out.1 j hj)
          refine hK _ _ (no_need (by kernel_rfl)) ?_
          have e9 : (tk ++ [x]).length = tk.length + 1 := by simp
          rw [e9] at hO9
          obtain ⟨f0, f1, f2⟩ := cells3 hbo9
          have f3 : ∀ j, w9.frozen? ⟨w.heap.size + 1 + 1, j, none⟩ = false := fun j => frozen_of_row w9 _ j _ _ hbo9
          have HO9 := Lib.hid hO9
          have HB9 := Lib.hid hbo9
          have HK9 := Lib.hid hK9
          clear hO9 hM9 hbo9 hK9 hne9
          clear hK K
          try simp only [Act.put, List.setIfInBounds_toArray, List.set_cons_zero, List.set_cons_succ]
          refine wpAnyT_takeY (i := 6) (v := ?v6_8) rfl (by kernel_rfl) (by kernel_rfl) (by kernel_rfl) (fun _ _ _ h => h) (by rfl) ?hy6_8 ?r6_8
          case hy6_8 => (intro w; go_simp; try (with_reducible rfl))
          case r6_8 =>
          try simp only [Act.put, List.setIfInBounds_toArray, List.set_cons_zero, List.set_cons_succ]
          refine wpAnyT_one (i := 7) rfl (by kernel_rfl) (by rfl) (fun K hK => ?_)
          go_simp
          refine hK _ _ (no_need (by kernel_rfl)) ?_
          clear hK K
          try simp only [Act.put, List.setIfInBounds_toArray, List.set_cons_zero, List.set_cons_succ]
          refine wpAnyT_done (by kernel_rfl) ?_ _
          refine NoPanic.normal ?_
          clear f0 f1 f2 f3
          go_wp2
          go_roundg (gk - 1)
          case measure => have := HG.out; omega
          case rel =>
            refine ⟨k + 1, _, by go_num, by omega, by have := HG.out; omega, ?_, by simpa using setCell_heap w9 (w.heap.size + 1 + 1) 1 _ _ _ (.slice (some ⟨g9, 0, none⟩) (tk.length + 1) c9) HB9.out, HK9.out.setCell ⟨w.heap.size + 1 + 1, 1, none⟩ rfl _⟩
            rw [HTK.out]
            exact HO9.out.step fun j hj _ => Below.heap_setCell _ _ _ j (by show j ≠ w.heap.size + 1 + 1; omega)
        · obtain rfl : k = d.next.length := by omega
          have hge : ¬ ((d.next.length : Int) < d.next.length) := by omega
          rw [List.take_length] at HN HBN
          clear HG
          have hBWb : Below w.heap.size w wr := hBr
          have hqb := HKN.out.heap HQa.out (by omega)
          obtain ⟨c0, c1, c2⟩ := cells3 hqb
          have HQb := Lib.hid hqb
          have HKb := Lib.hid (HKa.out.trans (HKN.out.mono fun _ _ h => h))
          have HBOWb := Lib.hid HBN.out
          have hbz1 : w.heap.size + 1 + 1 < wr.heap.size := (Array.getElem?_eq_some_iff.1 HBN.out).1
          clear hqb
          go_wp2
          obtain ⟨Wb, rfl⟩ : ∃ x : World, x = wr := ⟨_, rfl⟩
          go_loopg [43] (d.marks.length + 1) (fun gk vk wr => ∃ (k : Nat) (vX : Value), vk = .int .i64 (k : Int) ∧ k ≤ d.marks.length ∧ gk + k = d.marks.length + 1 ∧
            OwnS KintF 36 wr Wb.heap.size (fun j => Wb.heap.size ≤ j) vX (d.marks.take k) ∧ wr.heap[w.heap.size + 1 + 1]? = some (.cells #[.slice AC d.cls.length cC, .slice AN d.next.length cN, vX] 42 (0, 0)) ∧ Kp (fun j => j = w.heap.size + 1 + 1) Wb wr)
          case atStart => exact ⟨0, .slice none 0 0, rfl, by omega, by omega, OwnS.nil _ _ _ _ _, HBOWb.out, Kp.refl _ _⟩
          case round =>
            obtain ⟨k, vX, rfl, hk, hgk, hC, hbo, hKp⟩ := hrel
            obtain ⟨AM, cM, rfl, -, -, -⟩ := hC.reads
            have HG := Lib.hid hgk
            have hk0 : (0 : Int) ≤ k := by omega
            have hBr : Below w.heap.size w wr := hBWb.trans (hKp.below hBWb.size (fun j hj e => by omega))
            have HM := Lib.hid hC
            have HBM := Lib.hid hbo
            have HKM := Lib.hid hKp
            clear hgk hC hKp hbo
            by_cases hlt : k < d.marks.length
            · have hlt' : (k : Int) < d.marks.length := by omega
              obtain ⟨b5, o5, B5, d5, rfl, -, -, p5, -, -, t5⟩ := S_slice (S_below s3 hBr) hlt
              have hxl := HS.out.b5 _ (List.getElem_mem hlt)
              have htk : d.marks.take (k + 1) = d.marks.take k ++ [d.marks[k]] := List.take_succ_eq_append_getElem hlt
              have htl : (d.marks.take k).length ≤ d.marks.length := by rw [List.length_take]; omega
              have hcl := fun W' (hW' : Below wr.heap.size wr W') => c_cloneInt B5 d5 d.marks[k] _ W' (t5.bound.step fun b hb _ => hW'.block b hb.2) (fun b hb => Nat.lt_of_lt_of_le hb.2 hW'.size) hxl
              have HTK := Lib.hid htk
              have hcw : ∀ j, (Value.slice AM (d.marks.take k).length cM).ownBlock = some j → j < wr.heap.size := fun j hj => (HM.out.lt j hj).2
              have HCW := Lib.hid hcw
              clear htk hcw t5
              generalize d.marks[k] = x at *
              generalize d.marks.take k = tk at *
              obtain ⟨SS, hSi, hSm⟩ := one_row (w.heap.size + 1 + 1) (.cells #[.slice AC d.cls.length cC, .slice AN d.next.length cN, (.slice AM tk.length cM)] 42 (0, 0))
              have hS : SS wr.drew := hSm _ HBM.out
              have hWr : Wb.heap.size ≤ wr.heap.size := HKM.out.size
              have hbz : w.heap.size + 1 + 1 < wr.heap.size := (Array.getElem?_eq_some_iff.1 HBM.out).1
              go_wp2
              refine wp_region_noPanic (wp_region_T SS [1] (by kernel_rfl) ?_)
              refine wpAnyT_takeY (i := 0) (v := ?v0_9) rfl (by kernel_rfl) (by kernel_rfl) (by kernel_rfl) (fun _ _ _ h => h) (by rfl) ?hy0_9 ?r0_9
              case hy0_9 => (intro w; go_simp; try (with_reducible rfl))
              case r0_9 =>
              try simp only [Act.put, List.setIfInBounds_toArray, List.set_cons_zero, List.set_cons_succ]
              refine wpAnyT_takeY (i := 2) (v := ?v2_10) rfl (by kernel_rfl) (by kernel_rfl) (by kernel_rfl) (fun _ _ _ h => h) (by rfl) ?hy2_10 ?r2_10
              case hy2_10 => (intro w; go_simp; try (with_reducible rfl))
              case r2_10 =>
              try simp only [Act.put, List.setIfInBounds_toArray, List.set_cons_zero, List.set_cons_succ]
              refine wpAnyT_take (i := 1) (v := ?v1_11) rfl rfl (by kernel_rfl) (by kernel_rfl) (by kernel_rfl) (fun _ _ _ h => h) (by rfl) hS ?hy1_11 ?r1_11
              case hy1_11 => (intro w hSw; obtain ⟨e0, e1, e2⟩ := cells3 (hSi _ hSw); (try dsimp only at hSw); go_simp; try (with_reducible rfl))
              case r1_11 =>
              try simp only [Act.put, List.setIfInBounds_toArray, List.set_cons_zero, List.set_cons_succ]
              refine wpAnyT_one (i := 3) rfl (by kernel_rfl) (by rfl) (fun K hK => ?_)
              go_simp
              refine (hcl wr.drew (Below.refl _ _).drew).mono ?_
              rintro e w6 ⟨v6, rfl, hO6, hB6⟩
              obtain ⟨A6, c6, rfl, -, -, -⟩ := hO6.reads
              try dsimp only
              have hB46 : Below wr.heap.size wr w6 := (Below.refl _ wr).drew.trans hB6
              have hEl : KintF.R w6 (fun j => wr.heap.size ≤ j) x [.slice A6 x.length c6] := (OwnS.tight tightInt hO6).sliceF
              have hb6 := (hB46.block _ hbz).trans HBM.out
              refine hK _ _ (fun _ _ => hSm _ hb6) ?_
              have HB6 := Lib.hid hb6
              have HX6 := Lib.hid (HM.out.below hB46)
              have HK6 := Lib.hid (HKM.out.trans (.of_below hB46))
              have HEL := Lib.hid hEl
              have hz6 := hB46.size
              clear hb6 hB46 hB6 hO6 hEl
              clear hK K
              try simp only [Act.put, List.setIfInBounds_toArray, List.set_cons_zero, List.set_cons_succ]
              refine wpAnyT_one (i := 4) rfl (by kernel_rfl) (by rfl) (fun K hK => ?_)
              go_simp
              refine hK _ _ (fun _ _ => hSm _ ((Below.heap_alloc w6 _ _ (Array.getElem?_eq_some_iff.1 HB6.out).1).trans HB6.out)) ?_
              clear hK K
              try simp only [Act.put, List.setIfInBounds_toArray, List.set_cons_zero, List.set_cons_succ]
              refine wpAnyT_one (i := 5) rfl (by kernel_rfl) (by rfl) (fun K hK => ?_)
              refine wp_own_appendS KintF (w6.alloc (.cells #[.slice A6 x.length c6] 36)) Wb.heap.size _ _ 23 36 (.slice none 0 0) 24 rfl Tryz.underlying23 info_ints rfl (by decide) (by decide) (.slice AM tk.length cM) tk [x] (some ⟨w6.heap.size, 0, none⟩) 1 (fun j => Wb.heap.size ≤ j) (fun j => wr.heap.size ≤ j) rfl rfl
                (box_S KintF w6 36 [.slice A6 x.length c6] x (fun j => wr.heap.size ≤ j) (KintF.step HEL.out fun b _ hl => Below.heap_alloc _ _ b hl) hz6) (fun q c h => KintF.mono (fun b hb => ⟨Nat.le_trans hWr hb, fun e => by have := HCW.out _ e.symm; omega⟩) h) (HX6.out.alloc _) (fun j hj => ?_) ?_ (by simp; omega) ?_
              · simp at hj; omega
              · simp; omega
              intro v9 w9 hO9 hM9 hv9
              obtain ⟨g9, c9, rfl⟩ := hv9 (by simp)
              have hne9 : some (w.heap.size + 1 + 1) ≠ (Value.slice AM tk.length cM).ownBlock := fun e => by have := (HM.out.lt _ e.symm).1; omega
              have hbo9 := hM9.heap ((Below.heap_alloc w6 (.cells #[.slice A6 x.length c6] 36) _ (Array.getElem?_eq_some_iff.1 HB6.out).1).trans HB6.out) hne9
              have hK9 : Kp (fun j => j = w.heap.size + 1 + 1) Wb w9 := (HK6.out.alloc _).mov_after hM9 fun j hj => .inr (HM.out.1 j hj)
              refine hK _ _ (no_need (by kernel_rfl)) ?_
              have e9 : (tk ++ [x]).length = tk.length + 1 := by simp
              rw [e9] at hO9
              obtain ⟨f0, f1, f2⟩ := cells3 hbo9
              have f3 : ∀ j, w9.frozen? ⟨w.heap.size + 1 + 1, j, none⟩ = false := fun j => frozen_of_row w9 _ j _ _ hbo9
              have HO9 := Lib.hid hO9
              have HB9 := Lib.hid hbo9
              have HK9 := Lib.hid hK9
              clear hO9 hM9 hbo9 hK9 hne9
              clear hK K
              try simp only [Act.put, List.setIfInBounds_toArray, List.set_cons_zero, List.set_cons_succ]
              refine wpAnyT_takeY (i := 6) (v := ?v6_12) rfl (by kernel_rfl) (by kernel_rfl) (by kernel_rfl) (fun _ _ _ h => h) (by rfl) ?hy6_12 ?r6_12
              case hy6_12 => (intro w; go_simp; try (with_reducible rfl))
              case r6_12 =>
              try simp only [Act.put, List.setIfInBounds_toArray, List.set_cons_zero, List.set_cons_succ]
              refine wpAnyT_one (i := 7) rfl (by kernel_rfl) (by rfl) (fun K hK => ?_)
              go_simp
              refine hK _ _ (no_need (by kernel_rfl)) ?_
              clear hK K
              try simp only [Act.put, List.setIfInBounds_toArray, List.set_cons_zero, List.set_cons_succ]
              refine wpAnyT_done (by kernel_rfl) ?_ _
              refine NoPanic.normal ?_
              clear f0 f1 f2 f3
              go_wp2
              go_roundg (gk - 1)
              case measure => have := HG.out; omega
              case rel =>
                refine ⟨k + 1, _, by go_num, by omega, by have := HG.out; omega, ?_, by simpa using setCell_heap w9 (w.heap.size + 1 + 1) 2 _ _ _ (.slice (some ⟨g9, 0, none⟩) (tk.length + 1) c9) HB9.out, HK9.out.setCell ⟨w.heap.size + 1 + 1, 2, none⟩ rfl _⟩
                rw [HTK.out]
                exact HO9.out.step fun j hj _ => Below.heap_setCell _ _ _ j (by show j ≠ w.heap.size + 1 + 1; omega)
            · obtain rfl : k = d.marks.length := by omega
              have hge : ¬ ((d.marks.length : Int) < d.marks.length) := by omega
              rw [List.take_length] at HM HBM
              clear HG
              have hqe := (HKb.out.trans HKM.out).heap HQ1.out (by omega)
              obtain ⟨y0, y1, y2⟩ := cells3 HBM.out
              obtain ⟨v0, v1, v2⟩ := cells3 hqe
              have yf : ∀ j, wr.frozen? ⟨w.heap.size + 1, j, none⟩ = false := fun j => frozen_of_row wr _ j _ _ hqe
              have hWr := HKM.out.size
              have hWab := HKN.out.size
              have hW0a := HKa.out.size
              clear c0 c1 c2 hqe
              go_wp2
              obtain ⟨x0, x1, x2, hBF, hoth⟩ := set3 wr (w.heap.size + 1) 42 _ _ _ (.slice AC d.cls.length cC) (.slice AN d.next.length cN) (.slice AM d.marks.length cM) v0 v1 v2
              refine bodyPost_ret (v := dfaV ⟨AC, cC, AN, cN, AM, cM⟩ d) (by simp [results, Tryz.results15, go_sem, x0, x1, x2, dfaV, dfaC]) rfl ⟨⟨AC, cC, AN, cN, AM, cM⟩, rfl, ⟨?_, ?_, ?_⟩, hBr.trans (hBF w.heap.size (by omega))⟩
              · exact ((((HC.out.bound.keep (HKN.out.trans HKM.out) fun j hj _ e => by have := hj.1; omega).step fun j hj _ => hoth j (by have := hj.1; omega)).lower (by omega)).mono fun j hj => by have := hj.1; omega)
              · exact ((((HN.out.bound.keep HKM.out fun j hj _ e => by have := hj.1; omega).step fun j hj _ => hoth j (by have := hj.1; omega)).lower (by omega)).mono fun j hj => by have := hj.1; omega)
              · exact (((HM.out.step fun j hj _ => hoth j (by omega)).lower (by omega)).mono fun j hj => by omega)
theorem c_theirs (h : DA) (d : Dfa) (F : Nat → Prop) (w : World) (hR : DfaR w F h d) (hs : DfaS d) :
    Calls Tryz.prog 15 #[dfaV h d] w fun e w' => ∃ h', e = .returned (dfaV h' d) ∧ DfaW w' w.heap.size h' d ∧ Below w.heap.size w w' :=
  c_theirs0 h.A1 h.A2 h.A3 h.c1 h.c2 h.c3 d F w hR.s1 hR.s2 hR.s3 hs
end Go.Proofs
