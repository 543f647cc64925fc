/- The reference's Right. The reference's product: what is refused. The reference's product: what its loops do to memory. -/
import Derived.Test.YtmfijgigfianeaaGreatGrClass
import Derived.Test.YtmfijgigfianeaaGreatGrRef
section
set_option linter.unusedVariables false
set_option linter.unusedSimpArgs false
namespace Rp
open Go Go.RowKit Go.Proofs
/-- What the loads of Right's comparison ask. -/
def SRt (b1 o1 b2 o2 bd : Nat) (x y : BSet) (v : Value) (w : World) : Prop := w.rangeAt b1 o1 (setA x).toList ∧ w.rangeAt b2 o2 (setA y).toList ∧ w.cell? ⟨bd, 0, none⟩ = some v
theorem _root_.Go.Below.drewN' {B : Nat} {a w : World} (h : Below B a w) (n : Nat) : Below B a (w.drewN n) := ⟨h.os, h.tape, h.output, h.size, h.block⟩
theorem right_iff (d : Dfa) : rightB d = true ↔ (1 ≤ d.next.length ∧ d.next.length ≤ 4000 ∧ d.marks.length = d.next.length ∧ refClasses d.cls = d.cls ∧ ∀ s, s < d.next.length → stateB d s = true) := by
  simp only [rightB, Bool.and_eq_true, decide_eq_true_eq, List.all_eq_true, List.mem_range, parts_ref]
  constructor
  · rintro ⟨⟨⟨⟨a, b⟩, c⟩, e⟩, f⟩; exact ⟨a, b, c, e, f⟩
  · rintro ⟨a, b, c, e, f⟩; exact ⟨⟨⟨⟨a, b⟩, c⟩, e⟩, f⟩
theorem right_false {d : Dfa} (h : ¬ rightB d = true) : rightB d = false := by simpa using h
theorem state_iff {d : Dfa} {s : Nat} (h1 : s < d.next.length) (h2 : s < d.marks.length) : stateB d s = true ↔ (d.next[s].length = d.cls.length ∧ risB (-1) d.marks[s] = true ∧ ∀ t ∈ d.next[s], 0 ≤ t ∧ t < (d.next.length : Int)) := by
  simp only [stateB, List.getD_eq_getElem?_getD, List.getElem?_eq_getElem h1, List.getElem?_eq_getElem h2, Option.getD_some, Bool.and_eq_true, decide_eq_true_eq, Bool.not_eq_true', List.any_eq_false]
  constructor
  · rintro ⟨⟨a, b⟩, c⟩
    refine ⟨a, c, fun t ht => ?_⟩
    have := b t ht
    simp [outB] at this; omega
  · rintro ⟨a, c, b⟩
    refine ⟨⟨a, fun t ht => ?_⟩, c⟩
    have := b t ht
    simp [outB]; omega
end Rp
namespace Go.Proofs
open Go.RowKit Go.Shelf Rp Go.Maps
attribute [local go_sem] Oper.semAt_some
set_option maxRecDepth 100000 in
set_option maxHeartbeats 1600000 in
theorem c_refRight0 (A1 A2 A3 : Option Addr) (k1 k2 k3 : Nat) (d : Dfa) (F : Nat → Prop) (w : World) (s1 : Kref.S w F A1 d.cls) (s2 : Kints.S w F A2 d.next) (s3 : Kints.S w F A3 d.marks) (hs : DfaS d) :
    Calls Tryz.prog 30 #[.agg #[.slice A1 d.cls.length k1, .slice A2 d.next.length k2, .slice A3 d.marks.length k3]] w fun e w' => e = .returned (.bool (rightB d)) ∧ Below w.heap.size w w' := by
  go_enter Tryz.func30, Tryz.ntmps30
  go_upto_region 1 with (fail)
  refine wp_name fun W0 hW0 => ?_
  have q0 : W0.heap[w.heap.size]? = some (.cells #[.slice A1 d.cls.length k1, .slice A2 d.next.length k2, .slice A3 d.marks.length k3] 42 (0, 0)) := by
    rw [← hW0]; exact World.alloc_heap_new w _
  have hE0 : Ext w W0 := by rw [← hW0]; exact (Ext.refl _).alloc _
  have hz0 : w.heap.size < W0.heap.size := by rw [← hW0]; simp
  clear hW0
  obtain ⟨c0, c1, c2⟩ := cells3 q0
  have hRI := Lib.hid (right_iff d)
  by_cases n1 : 1 ≤ d.next.length
  rotate_left
  · have hf := right_false (d := d) fun h => n1 (hRI.out.1 h).1
    have hd : decide ((d.next.length : Int) < 1) = true := by simp; omega
    have HF := Lib.hid hf
    clear hf n1
    go_wp2
    go_ret
    exact ⟨by rw [HF.out]; rfl, hE0.below⟩
  have hd1 : decide ((d.next.length : Int) < 1) = false := by simp; omega
  by_cases n2 : d.next.length ≤ 4000
  rotate_left
  · have hf := right_false (d := d) fun h => n2 (hRI.out.1 h).2.1
    have hd : decide ((4000 : Int) < d.next.length) = true := by simp; omega
    have HF := Lib.hid hf
    clear hf n2
    go_wp2
    go_ret
    exact ⟨by rw [HF.out]; rfl, hE0.below⟩
  have hd2 : decide ((4000 : Int) < d.next.length) = false := by simp; omega
  by_cases n3 : d.marks.length = d.next.length
  rotate_left
  · have hf := right_false (d := d) fun h => n3 (hRI.out.1 h).2.2.1
    have hd : ((d.marks.length : Int) != d.next.length) = true := by simp; omega
    have HF := Lib.hid hf
    clear hf n3
    go_wp2
    go_ret
    exact ⟨by rw [HF.out]; rfl, hE0.below⟩
  have hd3 : ((d.marks.length : Int) != d.next.length) = false := by simp; omega
  have HN3 := Lib.hid n3
  clear n3
  have hll : (refClasses d.cls).length ≤ 256 := by have := leasts_le d.cls; simpa [refClasses] using this
  have hcof := c_refOf A1 k1 d.cls F W0 (S_below s1 hE0.below) hs.b1
  have hcc := fun W' => c_refClasses d.cls W'
  have HRC := Lib.hid (rfl : refClasses d.cls = refClasses d.cls)
  obtain ⟨rc, hrc⟩ : ∃ rc, refClasses d.cls = rc := ⟨_, rfl⟩
  simp only [hrc] at hcc hll hRI
  have HRC := Lib.hid hrc
  clear hrc
  have HB1 := Lib.hid hs.b1
  have HB2 := Lib.hid hs.b2
  have HB5 := Lib.hid hs.b5
  clear hs
  by_cases n4 : rc.length = d.cls.length
  rotate_left
  · have hf := right_false (d := d) fun h => n4 (by rw [(hRI.out.1 h).2.2.2.1])
    have hd4 : ((rc.length : Int) != d.cls.length) = true := by simp; omega
    have HF := Lib.hid hf
    clear hf n4
    go_wp2_with (first
      | (go_at_call 41; refine hcof.mono ?_; rintro e w1 ⟨rfl, hB1⟩)
      | (go_at_call 56; refine (hcc w1).mono ?_; rintro e w2 ⟨vW, rfl, hOW, hB2⟩; obtain ⟨AW, cW, rfl, _, _, _⟩ := hOW.reads; obtain ⟨e0, e1, e2⟩ := cells3 ((hB2.block _ (Nat.lt_of_lt_of_le hz0 hB1.size)).trans ((hB1.block _ hz0).trans q0))))
    go_ret
    exact ⟨by rw [HF.out]; rfl, hE0.below.trans ((hB1.trans (hB2.mono hB1.size)).mono hE0.size)⟩
  have hd4 : ((rc.length : Int) != d.cls.length) = false := by simp; omega
  have HN4 := Lib.hid n4
  clear n4
  go_wp2_with (first
    | (go_at_call 41; refine hcof.mono ?_; rintro e w1 ⟨rfl, hB1⟩)
    | (go_at_call 56; refine (hcc w1).mono ?_; rintro e w2 ⟨vW, rfl, hOW, hB2⟩; obtain ⟨AW, cW, rfl, _, _, SW⟩ := hOW.reads; obtain ⟨e0, e1, e2⟩ := cells3 ((hB2.block _ (Nat.lt_of_lt_of_le hz0 hB1.size)).trans ((hB1.block _ hz0).trans q0))))
  have hB02 : Below W0.heap.size W0 w2 := hB1.trans (hB2.mono hB1.size)
  have hBw2 : Below w.heap.size w w2 := hE0.below.trans (hB02.mono hE0.size)
  have SD := S_below s1 hBw2
  have S2 := S_below s2 hBw2
  have S3 := S_below s3 hBw2
  clear hcof hcc c0 c1 c2 hB1 hB2 hOW s1 s2 s3
  go_loopg [5] (rc.length + 1) (fun gk vk wr => ∃ k : Nat, vk = .int .i64 (k : Int) ∧ k ≤ rc.length ∧ gk + k = rc.length + 1 ∧ rc.take k = d.cls.take k ∧ ∃ q, wr = w2.drewN q)
  case atStart => exact ⟨0, rfl, by omega, by omega, by simp, 0, rfl⟩
  case round =>
    obtain ⟨k, rfl, hk, hgk, ht, q, rfl⟩ := hrel
    have HG := Lib.hid hgk
    have HT := Lib.hid ht
    have hk0 : (0 : Int) ≤ k := by omega
    clear hgk ht
    by_cases hlt : k < rc.length
    · have hlt2 : k < d.cls.length := by have := HN4.out; omega
      obtain ⟨b1, o1, rfl, hF1, hb1, p1⟩ := range_ref SW hlt
      obtain ⟨b2, o2, rfl, hF2, hb2, p2⟩ := range_ref SD hlt2
      have hst := take_eq_step hlt hlt2 HT.out
      have hne : rc[k] ≠ d.cls[k] → rc ≠ d.cls := fun h e => h (by subst e; rfl)
      have heq := run_eq_ref (P := Tryz.prog) Tryz.underlying75 Tryz.underlying3 Tryz.sizeOf3 rc[k] d.cls[k]
      generalize rc[k] = x at *
      generalize d.cls[k] = y at *
      have hk1 : (k : Int) < rc.length := by omega
      have hk2 : (k : Int) < d.cls.length := by omega
      have HST := Lib.hid hst
      have HNE := Lib.hid hne
      have hS : SRt b1 (o1 + k * 256) b2 (o2 + k * 256) w.heap.size x y (.slice (some ⟨b2, o2, none⟩) d.cls.length k1) (w2.drewN q).drew := ⟨p1, p2, e0⟩
      clear hst hne SW SD p1 p2
      by_cases hxy : x = y
      · have hd : decide (x = y) = true := by simpa using hxy
        rw [hd] at heq
        have HX := Lib.hid hxy
        clear hxy hd
        go_wp2
        refine wp_region_noPanic (wp_region_T (SRt b1 (o1 + k * 256) b2 (o2 + k * 256) w.heap.size x y (.slice (some ⟨b2, o2, none⟩) d.cls.length k1)) [3, 5, 8] (by kernel_rfl) ?_)
        refine wpAnyT_takeY (i := 0) (v := ?v0_1) rfl (by kernel_rfl) (by kernel_rfl) (by kernel_rfl) (fun _ _ _ h => h) (by rfl) ?hy0_1 ?r0_1
        case hy0_1 => (intro w; go_simp; try (with_reducible rfl))
        case r0_1 =>
        try simp only [Act.put, List.setIfInBounds_toArray, List.set_cons_zero, List.set_cons_succ]
        refine wpAnyT_takeY (i := 1) (v := ?v1_2) rfl (by kernel_rfl) (by kernel_rfl) (by kernel_rfl) (fun _ _ _ h => h) (by rfl) ?hy1_2 ?r1_2
        case hy1_2 => (intro w; go_simp; try (with_reducible rfl))
        case r1_2 =>
        try simp only [Act.put, List.setIfInBounds_toArray, List.set_cons_zero, List.set_cons_succ]
        refine wpAnyT_takeY (i := 2) (v := ?v2_3) rfl (by kernel_rfl) (by kernel_rfl) (by kernel_rfl) (fun _ _ _ h => h) (by rfl) ?hy2_3 ?r2_3
        case hy2_3 => (intro w; go_simp; try (with_reducible rfl))
        case r2_3 =>
        try simp only [Act.put, List.setIfInBounds_toArray, List.set_cons_zero, List.set_cons_succ]
        refine wpAnyT_takeY (i := 4) (v := ?v4_4) rfl (by kernel_rfl) (by kernel_rfl) (by kernel_rfl) (fun _ _ _ h => h) (by rfl) ?hy4_4 ?r4_4
        case hy4_4 => (intro w; go_simp; try (with_reducible rfl))
        case r4_4 =>
        try simp only [Act.put, List.setIfInBounds_toArray, List.set_cons_zero, List.set_cons_succ]
        refine wpAnyT_takeY (i := 6) (v := ?v6_5) rfl (by kernel_rfl) (by kernel_rfl) (by kernel_rfl) (fun _ _ _ h => h) (by rfl) ?hy6_5 ?r6_5
        case hy6_5 => (intro w; go_simp; try (with_reducible rfl))
        case r6_5 =>
        try simp only [Act.put, List.setIfInBounds_toArray, List.set_cons_zero, List.set_cons_succ]
        refine wpAnyT_take (i := 3) (v := .agg (setA x)) rfl rfl (by kernel_rfl) (by kernel_rfl) (by kernel_rfl) (fun _ _ _ h => h) (by rfl) hS (fun w hSw => exec_load_mid _ _ rfl b1 (o1 + k * 256) rfl _ _ hSw.1 und_ref rfl (size_refL x)) ?_
        try simp only [Act.put, List.setIfInBounds_toArray, List.set_cons_zero, List.set_cons_succ]
        refine wpAnyT_take (i := 5) (v := ?v5_6) rfl rfl (by kernel_rfl) (by kernel_rfl) (by kernel_rfl) (fun _ _ _ h => h) (by rfl) hS ?hy5_6 ?r5_6
        case hy5_6 => (intro w hSw; have hSc := hSw.2.2; (try dsimp only at hSw); go_simp; try (with_reducible rfl))
        case r5_6 =>
        try simp only [Act.put, List.setIfInBounds_toArray, List.set_cons_zero, List.set_cons_succ]
        refine wpAnyT_takeY (i := 7) (v := ?v7_7) rfl (by kernel_rfl) (by kernel_rfl) (by kernel_rfl) (fun _ _ _ h => h) (by rfl) ?hy7_7 ?r7_7
        case hy7_7 => (intro w; go_simp; try (with_reducible rfl))
        case r7_7 =>
        try simp only [Act.put, List.setIfInBounds_toArray, List.set_cons_zero, List.set_cons_succ]
        refine wpAnyT_take (i := 8) (v := .agg (setA y)) rfl rfl (by kernel_rfl) (by kernel_rfl) (by kernel_rfl) (fun _ _ _ h => h) (by rfl) hS (fun w hSw => exec_load_mid _ _ rfl b2 (o2 + k * 256) rfl _ _ hSw.2.1 und_ref rfl (size_refL y)) ?_
        try simp only [Act.put, List.setIfInBounds_toArray, List.set_cons_zero, List.set_cons_succ]
        refine wpAnyT_takeY (i := 9) (v := ?v9_8) rfl (by kernel_rfl) (by kernel_rfl) (by kernel_rfl) (fun _ _ _ h => h) (by rfl) ?hy9_8 ?r9_8
        case hy9_8 => (intro w; go_simp; try (with_reducible rfl))
        case r9_8 =>
        try simp only [Act.put, List.setIfInBounds_toArray, List.set_cons_zero, List.set_cons_succ]
        refine wpAnyT_done (by kernel_rfl) ?_ _
        refine NoPanic.normal ?_
        go_wp2
        go_roundg (gk - 1)
        case measure => have := HG.out; omega
        case rel => exact ⟨k + 1, by go_num, by omega, by have := HG.out; omega, HST.out.2 HX.out, q + 1, rfl⟩
      · have hd : decide (x = y) = false := by simpa using hxy
        rw [hd] at heq
        have hf := right_false (d := d) fun h => HNE.out hxy (hRI.out.1 h).2.2.2.1
        have HF := Lib.hid hf
        clear hxy hd hf
        go_wp2
        refine wp_region_noPanic (wp_region_T (SRt b1 (o1 + k * 256) b2 (o2 + k * 256) w.heap.size x y (.slice (some ⟨b2, o2, none⟩) d.cls.length k1)) [3, 5, 8] (by kernel_rfl) ?_)
        refine wpAnyT_takeY (i := 0) (v := ?v0_9) rfl (by kernel_rfl) (by kernel_rfl) (by kernel_rfl) (fun _ _ _ h => h) (by rfl) ?hy0_9 ?r0_9
        case hy0_9 => (intro w; go_simp; try (with_reducible rfl))
        case r0_9 =>
        try simp only [Act.put, List.setIfInBounds_toArray, List.set_cons_zero, List.set_cons_succ]
        refine wpAnyT_takeY (i := 1) (v := ?v1_10) rfl (by kernel_rfl) (by kernel_rfl) (by kernel_rfl) (fun _ _ _ h => h) (by rfl) ?hy1_10 ?r1_10
        case hy1_10 => (intro w; go_simp; try (with_reducible rfl))
        case r1_10 =>
        try simp only [Act.put, List.setIfInBounds_toArray, List.set_cons_zero, List.set_cons_succ]
        refine wpAnyT_takeY (i := 2) (v := ?v2_11) rfl (by kernel_rfl) (by kernel_rfl) (by kernel_rfl) (fun _ _ _ h => h) (by rfl) ?hy2_11 ?r2_11
        case hy2_11 => (intro w; go_simp; try (with_reducible rfl))
        case r2_11 =>
        try simp only [Act.put, List.setIfInBounds_toArray, List.set_cons_zero, List.set_cons_succ]
        refine wpAnyT_takeY (i := 4) (v := ?v4_12) rfl (by kernel_rfl) (by kernel_rfl) (by kernel_rfl) (fun _ _ _ h => h) (by rfl) ?hy4_12 ?r4_12
        case hy4_12 => (intro w; go_simp; try (with_reducible rfl))
        case r4_12 =>
        try simp only [Act.put, List.setIfInBounds_toArray, List.set_cons_zero, List.set_cons_succ]
        refine wpAnyT_takeY (i := 6) (v := ?v6_13) rfl (by kernel_rfl) (by kernel_rfl) (by kernel_rfl) (fun _ _ _ h => h) (by rfl) ?hy6_13 ?r6_13
        case hy6_13 => (intro w; go_simp; try (with_reducible rfl))
        case r6_13 =>
        try simp only [Act.put, List.setIfInBounds_toArray, List.set_cons_zero, List.set_cons_succ]
        refine wpAnyT_take (i := 3) (v := .agg (setA x)) rfl rfl (by kernel_rfl) (by kernel_rfl) (by kernel_rfl) (fun _ _ _ h => h) (by rfl) hS (fun w hSw => exec_load_mid _ _ rfl b1 (o1 + k * 256) rfl _ _ hSw.1 und_ref rfl (size_refL x)) ?_
        try simp only [Act.put, List.setIfInBounds_toArray, List.set_cons_zero, List.set_cons_succ]
        refine wpAnyT_take (i := 5) (v := ?v5_14) rfl rfl (by kernel_rfl) (by kernel_rfl) (by kernel_rfl) (fun _ _ _ h => h) (by rfl) hS ?hy5_14 ?r5_14
        case hy5_14 => (intro w hSw; have hSc := hSw.2.2; (try dsimp only at hSw); go_simp; try (with_reducible rfl))
        case r5_14 =>
        try simp only [Act.put, List.setIfInBounds_toArray, List.set_cons_zero, List.set_cons_succ]
        refine wpAnyT_takeY (i := 7) (v := ?v7_15) rfl (by kernel_rfl) (by kernel_rfl) (by kernel_rfl) (fun _ _ _ h => h) (by rfl) ?hy7_15 ?r7_15
        case hy7_15 => (intro w; go_simp; try (with_reducible rfl))
        case r7_15 =>
        try simp only [Act.put, List.setIfInBounds_toArray, List.set_cons_zero, List.set_cons_succ]
        refine wpAnyT_take (i := 8) (v := .agg (setA y)) rfl rfl (by kernel_rfl) (by kernel_rfl) (by kernel_rfl) (fun _ _ _ h => h) (by rfl) hS (fun w hSw => exec_load_mid _ _ rfl b2 (o2 + k * 256) rfl _ _ hSw.2.1 und_ref rfl (size_refL y)) ?_
        try simp only [Act.put, List.setIfInBounds_toArray, List.set_cons_zero, List.set_cons_succ]
        refine wpAnyT_takeY (i := 9) (v := ?v9_16) rfl (by kernel_rfl) (by kernel_rfl) (by kernel_rfl) (fun _ _ _ h => h) (by rfl) ?hy9_16 ?r9_16
        case hy9_16 => (intro w; go_simp; try (with_reducible rfl))
        case r9_16 =>
        try simp only [Act.put, List.setIfInBounds_toArray, List.set_cons_zero, List.set_cons_succ]
        refine wpAnyT_done (by kernel_rfl) ?_ _
        refine NoPanic.normal ?_
        go_wp2
        go_ret
        exact ⟨by rw [HF.out]; rfl, Below.drewN' hBw2 (q + 1)⟩
    · obtain rfl : k = rc.length := by omega
      have hge : ¬ ((rc.length : Int) < rc.length) := by omega
      have hce : rc = d.cls := by
        have h1 := HT.out
        rw [List.take_length, HN4.out, List.take_length] at h1
        exact h1
      have HCE := Lib.hid hce
      clear hce SW SD
      obtain ⟨gq, rfl⟩ : ∃ x : Nat, x = q := ⟨_, rfl⟩
      obtain ⟨go1, rfl⟩ : ∃ x : Nat, x = gk := ⟨_, rfl⟩
      go_wp2
      go_loopg [6] (d.next.length + 1) (fun gk vs wr => ∃ s : Nat, vs = .int .i64 (s : Int) ∧ s ≤ d.next.length ∧ gk + s = d.next.length + 1 ∧ (∀ j, j < s → stateB d j = true) ∧ ∃ q, wr = w2.drewN q)
      case atStart => exact ⟨0, rfl, by omega, by omega, fun j hj => by omega, gq, rfl⟩
      case round =>
        obtain ⟨s, rfl, hs, hgk, hst, q, rfl⟩ := hrel
        have HG2 := Lib.hid hgk
        have HST := Lib.hid hst
        have hs0 : (0 : Int) ≤ s := by omega
        clear hgk hst
        by_cases hlt : s < d.next.length
        · have hlt3 : s < d.marks.length := by rw [HN3.out]; exact hlt
          have hs1 : (s : Int) < d.next.length := by omega
          have hs3 : (s : Int) < d.marks.length := by omega
          obtain ⟨b5, o5, B5, d5, rfl, hF5, hb5, p5, _, _, t5⟩ := S_slice S2 hlt
          obtain ⟨b6, o6, B6, d6, rfl, hF6, hb6, p6, _, _, t6⟩ := S_slice S3 hlt3
          have hsi := state_iff hlt hlt3
          have hno : stateB d s ≠ true → rightB d = false := fun h => right_false fun k => h ((hRI.out.1 k).2.2.2.2 s hlt)
          have hxl := HB5.out _ (List.getElem_mem hlt3)
          have HSI := Lib.hid hsi
          have HNO := Lib.hid hno
          have HXL := Lib.hid hxl
          have hri := c_rising B6 d6 d.marks[s] _ (w2.drewN q) (t6.step fun _ _ _ => rfl) hxl
          clear hsi hno S2 S3 hxl
          generalize d.marks[s] = ms at *
          by_cases m1 : d.next[s].length = rc.length
          rotate_left
          · have hf := HNO.out fun k => m1 (by rw [HCE.out]; exact (HSI.out.1 k).1)
            have hd5 : ((d.next[s].length : Int) != rc.length) = true := by simp; omega
            have HF := Lib.hid hf
            clear hf m1
            go_wp2
            go_ret
            exact ⟨by rw [HF.out]; rfl, Below.drewN' hBw2 q⟩
          have hd5 : ((d.next[s].length : Int) != rc.length) = false := by simp; omega
          have HM1 := Lib.hid m1
          clear m1
          by_cases m2 : risB (-1) ms = true
          rotate_left
          · have hf := HNO.out fun k => m2 (HSI.out.1 k).2.1
            have m3 : risB (-1) ms = false := by simpa using m2
            rw [m3] at hri
            have HF := Lib.hid hf
            clear hf m2 m3
            go_wp2_with (go_at_call 57; refine hri.mono ?_; rintro e w5 ⟨rfl, q5, rfl⟩)
            go_ret
            exact ⟨by rw [HF.out]; rfl, Below.drewN' hBw2 (q + q5)⟩
          rw [m2] at hri
          have HM2 := Lib.hid m2
          clear m2
          go_wp2_with (go_at_call 57; refine hri.mono ?_; rintro e w5 ⟨rfl, q5, rfl⟩)
          clear hri
          obtain ⟨go2, rfl⟩ : ∃ x : Nat, x = gk := ⟨_, rfl⟩
          go_loopg [7] (rc.length + 1) (fun gk vk wr => ∃ k : Nat, vk = .int .i64 (k : Int) ∧ k ≤ rc.length ∧ gk + k = rc.length + 1 ∧ (∀ t ∈ d.next[s].take k, 0 ≤ t ∧ t < (d.next.length : Int)) ∧ ∃ q, wr = w2.drewN q)
          case atStart => exact ⟨0, rfl, by omega, by omega, fun t ht => by simp at ht, q + q5, by simp⟩
          case round =>
            obtain ⟨k, rfl, hk, hgk, hrg, q6, rfl⟩ := hrel
            have HG3 := Lib.hid hgk
            have HRG := Lib.hid hrg
            have hk0 : (0 : Int) ≤ k := by omega
            clear hgk hrg
            by_cases hlk : k < rc.length
            · have hlk' : k < d.next[s].length := by rw [HM1.out]; exact hlk
              have hk1 : (k : Int) < rc.length := by omega
              have hk2 : (k : Int) < d.next[s].length := by omega
              obtain ⟨b7, o7, rfl, hF7, hb7, p7, _⟩ := S_int t5 hlk'
              have hmem := List.getElem_mem hlk'
              have htk := List.take_succ_eq_append_getElem hlk'
              have hno2 : ¬ (0 ≤ d.next[s][k] ∧ d.next[s][k] < (d.next.length : Int)) → rightB d = false := fun h => HNO.out fun kk => h ((HSI.out.1 kk).2.2 _ hmem)
              have HNO2 := Lib.hid hno2
              have HTK := Lib.hid htk
              clear hno2 hmem htk
              generalize d.next[s][k] = x at *
              by_cases x1 : x < 0
              · have x1' : decide (x < 0) = true := by simpa using x1
                have hf := HNO2.out fun h => by omega
                have HF := Lib.hid hf
                clear x1 hf
                go_wp2
                go_ret
                exact ⟨by rw [HF.out]; rfl, Below.drewN' hBw2 q6⟩
              · have x1' : decide (x < 0) = false := by simpa using x1
                by_cases x2 : (d.next.length : Int) ≤ x
                · have x2' : decide ((d.next.length : Int) ≤ x) = true := by simpa using x2
                  have hf := HNO2.out fun h => by omega
                  have HF := Lib.hid hf
                  clear x1 x2 hf
                  go_wp2
                  go_ret
                  exact ⟨by rw [HF.out]; rfl, Below.drewN' hBw2 q6⟩
                · have x2' : decide ((d.next.length : Int) ≤ x) = false := by simpa using x2
                  have hrg2 : ∀ t ∈ d.next[s].take (k + 1), 0 ≤ t ∧ t < (d.next.length : Int) := by
                    rw [HTK.out]
                    intro t ht
                    rcases List.mem_append.1 ht with h | h
                    · exact HRG.out t h
                    · rw [List.mem_singleton.1 h]; omega
                  have HRG2 := Lib.hid hrg2
                  clear x1 x2 hrg2
                  go_wp2
                  go_roundg (gk - 1)
                  case measure => have := HG3.out; omega
                  case rel => exact ⟨k + 1, by go_num, by omega, by have := HG3.out; omega, HRG2.out, q6, rfl⟩
            · obtain rfl : k = rc.length := by omega
              have hge2 : ¬ ((rc.length : Int) < rc.length) := by omega
              have hsb : stateB d s = true := HSI.out.2 ⟨by rw [HM1.out, HCE.out], HM2.out, fun t ht => HRG.out t (by rw [← HM1.out, List.take_length]; exact ht)⟩
              have HSB := Lib.hid hsb
              clear hsb
              go_wp2
              go_roundg (go2 - 1)
              case measure => have := HG2.out; omega
              case rel => exact ⟨s + 1, by go_num, by omega, by have := HG2.out; omega, fun j hj => by
                rcases Nat.lt_or_eq_of_le (Nat.le_of_lt_succ hj) with h | h
                · exact HST.out j h
                · rw [h]; exact HSB.out, q6, rfl⟩
        · obtain rfl : s = d.next.length := by omega
          have hge2 : ¬ ((d.next.length : Int) < d.next.length) := by omega
          have hr : rightB d = true := hRI.out.2 ⟨n1, n2, HN3.out, HCE.out, HST.out⟩
          have HR := Lib.hid hr
          clear hr
          go_wp2
          go_ret
          exact ⟨by rw [HR.out]; rfl, Below.drewN' hBw2 q⟩
theorem c_refRight (h : DA) (d : Dfa) (F : Nat → Prop) (w : World) (hT : DfaT w F h d) (hs : DfaS d) :
    Calls Tryz.prog 30 #[dfaV h d] w fun e w' => e = .returned (.bool (rightB d)) ∧ Below w.heap.size w w' :=
  c_refRight0 h.A1 h.A2 h.A3 h.c1 h.c2 h.c3 d F w hT.t1 hT.t2 hT.t3 hs
set_option maxHeartbeats 800000 in
theorem c_refSays (op : Nat) (a b : Bool) (w : World) (h : op = 1 ∨ op = 2 ∨ op = 3 ∨ op = 4) : Calls Tryz.prog 45 #[.int .i64 (op : Int), .bool a, .bool b] w fun e w' => e = .returned (.bool (sayB op a b)) ∧ w' = w := by
  rcases h with rfl | rfl | rfl | rfl <;> cases a <;> cases b
  all_goals
    go_enter Tryz.func45, Tryz.ntmps45
    go_wp2
    go_ret
    exact ⟨rfl, rfl⟩
end Go.Proofs
end

section
set_option linter.unusedVariables false
set_option linter.unusedSimpArgs false
namespace Go.Proofs
open Go.RowKit Go.Shelf Rp Go.Maps
attribute [local go_sem] Oper.semAt_some
/-- An automaton of the reference that is read, with its sizes. -/
structure DfaU (w : World) (F : Nat → Prop) (h : DA) (d : Dfa) : Prop where
  t : DfaT w F h d
  s : DfaS d
theorem DfaU.below {w w' : World} {F : Nat → Prop} {h : DA} {d : Dfa} (r : DfaU w F h d) (hb : Below w.heap.size w w') : DfaU w' F h d := ⟨r.t.below hb, r.s⟩
theorem DfaU.right {w : World} {F : Nat → Prop} {h : DA} {d : Dfa} (r : DfaU w F h d) :
    Calls Tryz.prog 30 #[.agg #[.slice h.A1 d.cls.length h.c1, .slice h.A2 d.next.length h.c2, .slice h.A3 d.marks.length h.c3]] w fun e w' => e = .returned (.bool (rightB d)) ∧ Below w.heap.size w w' :=
  c_refRight h d F w r.t r.s
set_option maxRecDepth 100000 in
set_option maxHeartbeats 1600000 in
theorem c_ofw (ha hb : DA) (a b : Dfa) (op : Nat) (fuel : Int) (F G : Nat → Prop) (w : World) (hop : op < 256) (ra : DfaU w F ha a) (rb : DfaU w G hb b) (n : Int) (hw : errB a b op fuel = some n) :
    Calls Tryz.prog 17 #[.agg #[.slice ha.A1 a.cls.length ha.c1, .slice ha.A2 a.next.length ha.c2, .slice ha.A3 a.marks.length ha.c3], .agg #[.slice hb.A1 b.cls.length hb.c1, .slice hb.A2 b.next.length hb.c2, .slice hb.A3 b.marks.length hb.c3], .int .i64 (op : Int), .int .i64 fuel] w
      fun e w' => e = .returned (.tuple #[dfaV nilDA noDfa, .int .i64 n]) ∧ Below w.heap.size w w' := by
  have hra := fun W' (hW' : Below w.heap.size w W') => (ra.below hW').right
  have hrb := fun W' (hW' : Below w.heap.size w W') => (rb.below hW').right
  go_enter Tryz.func17, Tryz.ntmps17
  go_upto_region 2 with (fail)
  refine wp_name fun W0 hW0 => ?_
  have q0 : W0.heap[w.heap.size]? = some (.cells #[.slice ha.A1 a.cls.length ha.c1, .slice ha.A2 a.next.length ha.c2, .slice ha.A3 a.marks.length ha.c3] 42 (0, 0)) := by
    rw [← hW0]; exact (Below.heap_alloc _ _ _ (by simp <;> omega)).trans ((Below.heap_alloc _ _ _ (by simp <;> omega)).trans ((Below.heap_alloc _ _ _ (by simp)).trans (World.alloc_heap_new w _)))
  have q1 : W0.heap[w.heap.size + 1]? = some (.cells #[.slice hb.A1 b.cls.length hb.c1, .slice hb.A2 b.next.length hb.c2, .slice hb.A3 b.marks.length hb.c3] 42 (0, 0)) := by
    rw [← hW0]; refine (Below.heap_alloc _ _ _ (by simp <;> omega)).trans ((Below.heap_alloc _ _ _ (by simp)).trans ?_)
    have := World.alloc_heap_new (w.alloc (.cells #[.slice ha.A1 a.cls.length ha.c1, .slice ha.A2 a.next.length ha.c2, .slice ha.A3 a.marks.length ha.c3] 42)) (.cells #[.slice hb.A1 b.cls.length hb.c1, .slice hb.A2 b.next.length hb.c2, .slice hb.A3 b.marks.length hb.c3] 42)
    simpa using this
  have q2 : W0.heap[w.heap.size + 1 + 1]? = some (.cells #[.slice none 0 0, .slice none 0 0, .slice none 0 0] 42 (0, 0)) := by
    rw [← hW0]; refine (Below.heap_alloc _ _ _ (by simp)).trans ?_
    have := World.alloc_heap_new ((w.alloc (.cells #[.slice ha.A1 a.cls.length ha.c1, .slice ha.A2 a.next.length ha.c2, .slice ha.A3 a.marks.length ha.c3] 42)).alloc (.cells #[.slice hb.A1 b.cls.length hb.c1, .slice hb.A2 b.next.length hb.c2, .slice hb.A3 b.marks.length hb.c3] 42)) (.cells #[.slice none 0 0, .slice none 0 0, .slice none 0 0] 42)
    simpa using this
  have q3 : W0.heap[w.heap.size + 1 + 1 + 1]? = some (.cells #[.slice none 0 0, .slice none 0 0, .slice none 0 0] 42 (0, 0)) := by
    rw [← hW0]
    have := World.alloc_heap_new (((w.alloc (.cells #[.slice ha.A1 a.cls.length ha.c1, .slice ha.A2 a.next.length ha.c2, .slice ha.A3 a.marks.length ha.c3] 42)).alloc (.cells #[.slice hb.A1 b.cls.length hb.c1, .slice hb.A2 b.next.length hb.c2, .slice hb.A3 b.marks.length hb.c3] 42)).alloc (.cells #[.slice none 0 0, .slice none 0 0, .slice none 0 0] 42)) (.cells #[.slice none 0 0, .slice none 0 0, .slice none 0 0] 42)
    simpa using this
  have hE0 : Ext w W0 := by rw [← hW0]; exact ((((Ext.refl _).alloc _).alloc _).alloc _).alloc _
  have hz0 : W0.heap.size = w.heap.size + 4 := by rw [← hW0]; simp
  clear hW0
  obtain ⟨p0, p1, p2⟩ := cells3 q0
  have hcA : ∀ W', Below W0.heap.size W0 W' → W'.cell? ⟨w.heap.size + 1, 0, none⟩ = some (.slice hb.A1 b.cls.length hb.c1) ∧ W'.cell? ⟨w.heap.size + 1, 1, none⟩ = some (.slice hb.A2 b.next.length hb.c2) ∧ W'.cell? ⟨w.heap.size + 1, 2, none⟩ = some (.slice hb.A3 b.marks.length hb.c3) ∧
      W'.cell? ⟨w.heap.size + 1 + 1, 0, none⟩ = some (.slice none 0 0) ∧ W'.cell? ⟨w.heap.size + 1 + 1, 1, none⟩ = some (.slice none 0 0) ∧ W'.cell? ⟨w.heap.size + 1 + 1, 2, none⟩ = some (.slice none 0 0) ∧ (∀ j, W'.frozen? ⟨w.heap.size + 1 + 1, j, none⟩ = false) ∧
      W'.cell? ⟨w.heap.size + 1 + 1 + 1, 0, none⟩ = some (.slice none 0 0) ∧ W'.cell? ⟨w.heap.size + 1 + 1 + 1, 1, none⟩ = some (.slice none 0 0) ∧ W'.cell? ⟨w.heap.size + 1 + 1 + 1, 2, none⟩ = some (.slice none 0 0) := fun W' hW' => by
    obtain ⟨x0, x1, x2⟩ := cells3 ((hW'.block _ (Array.getElem?_eq_some_iff.1 q1).1).trans q1)
    obtain ⟨y0, y1, y2⟩ := cells3 ((hW'.block _ (Array.getElem?_eq_some_iff.1 q3).1).trans q3)
    have e2 := (hW'.block _ (Array.getElem?_eq_some_iff.1 q2).1).trans q2
    obtain ⟨z0, z1, z2⟩ := cells3 e2
    exact ⟨x0, x1, x2, z0, z1, z2, fun j => frozen_of_row W' _ j _ _ e2, y0, y1, y2⟩
  have hcall := hra W0 hE0.below
  clear q0 q1 q2 q3
  cases hA : rightB a with
  | false =>
    obtain rfl : 182 = n := by simpa [errB, hA] using hw
    rw [hA] at hcall
    clear hw hra hrb hA
    go_wp2_with (go_at_call 30; refine hcall.mono ?_; rintro e w2 ⟨rfl, hB2⟩; obtain ⟨_, _, _, g3, g4, g5, g6, k0, k1, k2⟩ := hcA w2 hB2)
    have hBw := hE0.below.trans (hB2.mono hE0.size)
    obtain ⟨u0, u1, u2, hBF, _⟩ := set3 w2 (w.heap.size + 1 + 1) 42 _ _ _ (.slice none 0 0) (.slice none 0 0) (.slice none 0 0) g3 g4 g5
    refine bodyPost_ret (v := .tuple #[dfaV nilDA noDfa, .int .i64 182]) (by simp [results, Tryz.results17, go_sem, u0, u1, u2, dfaV, dfaC, nilDA, noDfa]) rfl ⟨rfl, hBw.trans (hBF _ (by omega))⟩
  | true =>
    rw [hA] at hcall
    cases hB : rightB b with
    | false =>
      obtain rfl : 182 = n := by simpa [errB, hA, hB] using hw
      rw [hB] at hrb
      clear hw hra hA hB
      go_wp2_with (first
        | (go_at_call 30; refine hcall.mono ?_; rintro e w2 ⟨rfl, hB2⟩; obtain ⟨f0, f1, f2, _⟩ := hcA w2 hB2; have hBw := hE0.below.trans (hB2.mono hE0.size); clear hcall)
        | (go_at_call 30; refine (hrb w2 hBw).mono ?_; rintro e w3 ⟨rfl, hB3⟩; obtain ⟨_, _, _, i3, i4, i5, i6, k0, k1, k2⟩ := hcA w3 (hB2.trans (hB3.mono hB2.size))))
      have hBw3 := hBw.trans (hB3.mono hBw.size)
      obtain ⟨u0, u1, u2, hBF, _⟩ := set3 w3 (w.heap.size + 1 + 1) 42 _ _ _ (.slice none 0 0) (.slice none 0 0) (.slice none 0 0) i3 i4 i5
      refine bodyPost_ret (v := .tuple #[dfaV nilDA noDfa, .int .i64 182]) (by simp [results, Tryz.results17, go_sem, u0, u1, u2, dfaV, dfaC, nilDA, noDfa]) rfl ⟨rfl, hBw3.trans (hBF _ (by omega))⟩
    | true =>
      rw [hB] at hrb
      clear hra
      by_cases hop2 : op = 0 ∨ 4 < op
      · obtain rfl : 190 = n := by simpa [errB, hA, hB, hop2] using hw
        clear hw hA hB
        by_cases hop1 : op = 0
        · subst hop1
          clear hop2
          go_wp2_with (first
            | (go_at_call 30; refine hcall.mono ?_; rintro e w2 ⟨rfl, hB2⟩; obtain ⟨f0, f1, f2, _⟩ := hcA w2 hB2; have hBw := hE0.below.trans (hB2.mono hE0.size); clear hcall)
            | (go_at_call 30; refine (hrb w2 hBw).mono ?_; rintro e w3 ⟨rfl, hB3⟩; obtain ⟨_, _, _, i3, i4, i5, i6, k0, k1, k2⟩ := hcA w3 (hB2.trans (hB3.mono hB2.size))))
          have hBw3 := hBw.trans (hB3.mono hBw.size)
          obtain ⟨u0, u1, u2, hBF, _⟩ := set3 w3 (w.heap.size + 1 + 1) 42 _ _ _ (.slice none 0 0) (.slice none 0 0) (.slice none 0 0) i3 i4 i5
          refine bodyPost_ret (v := .tuple #[dfaV nilDA noDfa, .int .i64 190]) (by simp [results, Tryz.results17, go_sem, u0, u1, u2, dfaV, dfaC, nilDA, noDfa]) rfl ⟨rfl, hBw3.trans (hBF _ (by omega))⟩
        · have d1 : decide ((op : Int) < 1) = false := by simp; omega
          have d2 : decide ((4 : Int) < op) = true := by simp; omega
          clear hop2 hop1
          go_wp2_with (first
            | (go_at_call 30; refine hcall.mono ?_; rintro e w2 ⟨rfl, hB2⟩; obtain ⟨f0, f1, f2, _⟩ := hcA w2 hB2; have hBw := hE0.below.trans (hB2.mono hE0.size); clear hcall)
            | (go_at_call 30; refine (hrb w2 hBw).mono ?_; rintro e w3 ⟨rfl, hB3⟩; obtain ⟨_, _, _, i3, i4, i5, i6, k0, k1, k2⟩ := hcA w3 (hB2.trans (hB3.mono hB2.size))))
          have hBw3 := hBw.trans (hB3.mono hBw.size)
          obtain ⟨u0, u1, u2, hBF, _⟩ := set3 w3 (w.heap.size + 1 + 1) 42 _ _ _ (.slice none 0 0) (.slice none 0 0) (.slice none 0 0) i3 i4 i5
          refine bodyPost_ret (v := .tuple #[dfaV nilDA noDfa, .int .i64 190]) (by simp [results, Tryz.results17, go_sem, u0, u1, u2, dfaV, dfaC, nilDA, noDfa]) rfl ⟨rfl, hBw3.trans (hBF _ (by omega))⟩
      · have d1 : decide ((op : Int) < 1) = false := by simp; omega
        have d2 : decide ((4 : Int) < op) = false := by simp; omega
        by_cases hf : fuel < 0
        · obtain rfl : 2 = n := by simpa [errB, hA, hB, hop2, hf] using hw
          have d3 : decide (fuel < 0) = true := by simpa using hf
          clear hw hA hB hop2 hf
          go_wp2_with (first
            | (go_at_call 30; refine hcall.mono ?_; rintro e w2 ⟨rfl, hB2⟩; obtain ⟨f0, f1, f2, _⟩ := hcA w2 hB2; have hBw := hE0.below.trans (hB2.mono hE0.size); clear hcall)
            | (go_at_call 30; refine (hrb w2 hBw).mono ?_; rintro e w3 ⟨rfl, hB3⟩; obtain ⟨_, _, _, i3, i4, i5, i6, k0, k1, k2⟩ := hcA w3 (hB2.trans (hB3.mono hB2.size))))
          have hBw3 := hBw.trans (hB3.mono hBw.size)
          obtain ⟨u0, u1, u2, hBF, _⟩ := set3 w3 (w.heap.size + 1 + 1) 42 _ _ _ (.slice none 0 0) (.slice none 0 0) (.slice none 0 0) i3 i4 i5
          refine bodyPost_ret (v := .tuple #[dfaV nilDA noDfa, .int .i64 2]) (by simp [results, Tryz.results17, go_sem, u0, u1, u2, dfaV, dfaC, nilDA, noDfa]) rfl ⟨rfl, hBw3.trans (hBF _ (by omega))⟩
        · have d3 : decide (fuel < 0) = false := by simp; omega
          by_cases hf2 : fuel > 4000
          · obtain rfl : 2 = n := by simpa [errB, hA, hB, hop2, hf, hf2] using hw
            have d4 : decide (4000 < fuel) = true := by simp; omega
            clear hw hA hB hop2 hf hf2
            go_wp2_with (first
              | (go_at_call 30; refine hcall.mono ?_; rintro e w2 ⟨rfl, hB2⟩; obtain ⟨f0, f1, f2, _⟩ := hcA w2 hB2; have hBw := hE0.below.trans (hB2.mono hE0.size); clear hcall)
              | (go_at_call 30; refine (hrb w2 hBw).mono ?_; rintro e w3 ⟨rfl, hB3⟩; obtain ⟨_, _, _, i3, i4, i5, i6, k0, k1, k2⟩ := hcA w3 (hB2.trans (hB3.mono hB2.size))))
            have hBw3 := hBw.trans (hB3.mono hBw.size)
            obtain ⟨u0, u1, u2, hBF, _⟩ := set3 w3 (w.heap.size + 1 + 1) 42 _ _ _ (.slice none 0 0) (.slice none 0 0) (.slice none 0 0) i3 i4 i5
            refine bodyPost_ret (v := .tuple #[dfaV nilDA noDfa, .int .i64 2]) (by simp [results, Tryz.results17, go_sem, u0, u1, u2, dfaV, dfaC, nilDA, noDfa]) rfl ⟨rfl, hBw3.trans (hBF _ (by omega))⟩
          · have d4 : decide (4000 < fuel) = false := by simp; omega
            by_cases hf3 : fuel = 0
            · obtain rfl : 181 = n := by simpa [errB, hA, hB, hop2, hf, hf2, hf3] using hw
              subst hf3
              clear hw hA hB hop2 hf hf2 d3 d4
              go_wp2_with (first
                | (go_at_call 30; refine hcall.mono ?_; rintro e w2 ⟨rfl, hB2⟩; obtain ⟨f0, f1, f2, _⟩ := hcA w2 hB2; have hBw := hE0.below.trans (hB2.mono hE0.size); clear hcall)
                | (go_at_call 30; refine (hrb w2 hBw).mono ?_; rintro e w3 ⟨rfl, hB3⟩; obtain ⟨_, _, _, i3, i4, i5, i6, k0, k1, k2⟩ := hcA w3 (hB2.trans (hB3.mono hB2.size))))
              have hBw3 := hBw.trans (hB3.mono hBw.size)
              obtain ⟨u0, u1, u2, hBF, _⟩ := set3 w3 (w.heap.size + 1 + 1) 42 _ _ _ (.slice none 0 0) (.slice none 0 0) (.slice none 0 0) i3 i4 i5
              refine bodyPost_ret (v := .tuple #[dfaV nilDA noDfa, .int .i64 181]) (by simp [results, Tryz.results17, go_sem, u0, u1, u2, dfaV, dfaC, nilDA, noDfa]) rfl ⟨rfl, hBw3.trans (hBF _ (by omega))⟩
            · exfalso
              simp [errB, hA, hB, hop2, hf, hf2, hf3] at hw
end Go.Proofs
end

section
set_option linter.unusedVariables false
set_option linter.unusedSimpArgs false
namespace Rp
open Go Go.RowKit Go.Proofs
theorem sep_mov {w w' : World} {a a' b : Option Nat} (h : Mov w w' a a') (hlt : ∀ k, b = some k → k < w.heap.size) (hs : ∀ k, a = some k → b ≠ some k) : ∀ k, a' = some k → b ≠ some k := by
  intro k hk
  rcases h.at_ with e | ⟨g, e, hg⟩
  · exact hs k (by rw [← e]; exact hk)
  · intro eb
    rw [e] at hk; injection hk with hk
    have := hlt k eb; omega
theorem sep_comm {a b : Option Nat} (h : ∀ k, a = some k → b ≠ some k) : ∀ k, b = some k → a ≠ some k := fun k hk e => h k e hk
theorem sep_or {a b : Option Nat} (h : ∀ k, a = some k → b ≠ some k) : b = none ∨ b ≠ a := by
  cases b with
  | none => exact .inl rfl
  | some k => exact .inr fun e => h k e.symm rfl
theorem at_mov {w w' : World} {a a' o : Option Nat} {n : Nat} (h : Mov w w' a a') (hn : n ≤ w.heap.size) (ha : ∀ k, a = some k → some k = o ∨ n ≤ k) : ∀ k, a' = some k → some k = o ∨ n ≤ k := by
  intro k hk
  rcases h.at_ with e | ⟨g, e, hg⟩
  · exact ha k (by rw [← e]; exact hk)
  · rw [e] at hk; injection hk with hk; exact .inr (by omega)
structure InR (e : TypeId) (B : Nat) (oL oR : Option Nat) (W7 : World) (l r X : List Int) (vL vR vX : Value) (w : World) : Prop where
  kp : Kp (fun k => some k = oL ∨ some k = oR) W7 w
  ol : OwnS Kint e w B (fun k => B ≤ k) vL l
  or : OwnS Kint e w B (fun k => B ≤ k) vR r
  ox : OwnS Kint e w W7.heap.size (fun k => W7.heap.size ≤ k) vX X
  al : ∀ k, vL.ownBlock = some k → some k = oL ∨ W7.heap.size ≤ k
  ar : ∀ k, vR.ownBlock = some k → some k = oR ∨ W7.heap.size ≤ k
  n1 : ∀ k, vL.ownBlock = some k → vR.ownBlock ≠ some k
  n2 : ∀ k, vL.ownBlock = some k → vX.ownBlock ≠ some k
  n3 : ∀ k, vR.ownBlock = some k → vX.ownBlock ≠ some k
section
variable {e : TypeId} {B : Nat} {oL oR : Option Nat} {W7 w w1 : World} {l r X l' r' X' : List Int} {vL vR vX vL' vR' vX' : Value}
theorem InR.pushL (h : InR e B oL oR W7 l r X vL vR vX w) (hO : OwnS Kint e w1 B (fun k => B ≤ k) vL' l') (hM : Mov w w1 vL.ownBlock vL'.ownBlock) : InR e B oL oR W7 l' r X vL' vR vX w1 :=
  ⟨h.kp.mov_after hM fun k hk => (h.al k hk).imp .inl id, hO, h.or.mov flatInt hM (sep_or h.n1), h.ox.mov flatInt hM (sep_or h.n2), at_mov hM h.kp.size h.al, h.ar, sep_mov hM (fun k hk => (h.or.lt k hk).2) h.n1, sep_mov hM (fun k hk => (h.ox.lt k hk).2) h.n2, h.n3⟩
theorem InR.pushR (h : InR e B oL oR W7 l r X vL vR vX w) (hO : OwnS Kint e w1 B (fun k => B ≤ k) vR' r') (hM : Mov w w1 vR.ownBlock vR'.ownBlock) : InR e B oL oR W7 l r' X vL vR' vX w1 :=
  ⟨h.kp.mov_after hM fun k hk => (h.ar k hk).imp .inr id, h.ol.mov flatInt hM (sep_or (sep_comm h.n1)), hO, h.ox.mov flatInt hM (sep_or h.n3), h.al, at_mov hM h.kp.size h.ar, sep_comm (sep_mov hM (fun k hk => (h.ol.lt k hk).2) (sep_comm h.n1)), h.n2, sep_mov hM (fun k hk => (h.ox.lt k hk).2) h.n3⟩
theorem InR.add (h : InR e B oL oR W7 l r X vL vR vX w) (hO : OwnS Kint e w1 W7.heap.size (fun k => W7.heap.size ≤ k) vX' X') (hM : Mov w w1 vX.ownBlock vX'.ownBlock) : InR e B oL oR W7 l r X' vL vR vX' w1 :=
  ⟨h.kp.mov_after hM fun k hk => .inr (h.ox.1 k hk), h.ol.mov flatInt hM (sep_or (sep_comm h.n2)), h.or.mov flatInt hM (sep_or (sep_comm h.n3)), hO, h.al, h.ar, h.n1, sep_comm (sep_mov hM (fun k hk => (h.ol.lt k hk).2) (sep_comm h.n2)), sep_comm (sep_mov hM (fun k hk => (h.or.lt k hk).2) (sep_comm h.n3))⟩
theorem InR.ext (h : InR e B oL oR W7 l r X vL vR vX w) (hb : Below w.heap.size w w1) : InR e B oL oR W7 l r X vL vR vX w1 :=
  ⟨h.kp.trans (.of_below hb), h.ol.below hb, h.or.below hb, h.ox.below hb, h.al, h.ar, h.n1, h.n2, h.n3⟩
end
structure OutR (T ei es : TypeId) (bo : Nat) (vC : Value) (W5 : World) (l r : List Int) (nx mk : List (List Int)) (vL vR vN vM : Value) (w : World) : Prop where
  kp : Kp (fun k => k = bo) W5 w
  ol : OwnS Kint ei w W5.heap.size (fun k => W5.heap.size ≤ k) vL l
  or : OwnS Kint ei w W5.heap.size (fun k => W5.heap.size ≤ k) vR r
  on : OwnS KintF es w W5.heap.size (fun k => W5.heap.size ≤ k ∧ some k ≠ vL.ownBlock ∧ some k ≠ vR.ownBlock ∧ some k ≠ vM.ownBlock) vN nx
  om : OwnS KintF es w W5.heap.size (fun k => W5.heap.size ≤ k ∧ some k ≠ vL.ownBlock ∧ some k ≠ vR.ownBlock ∧ some k ≠ vN.ownBlock) vM mk
  hb : w.heap[bo]? = some (.cells #[vC, vN, vM] T (0, 0))
  hl : bo < W5.heap.size
  n1 : ∀ k, vL.ownBlock = some k → vR.ownBlock ≠ some k
section
variable {T ei es : TypeId} {bo : Nat} {vC : Value} {W5 w w1 : World} {l r l' r' X : List Int} {nx mk nx' mk' : List (List Int)} {vL vR vN vM vL' vR' vN' vM' vX : Value}
theorem OutR.ext (h : OutR T ei es bo vC W5 l r nx mk vL vR vN vM w) (hb : Below w.heap.size w w1) : OutR T ei es bo vC W5 l r nx mk vL vR vN vM w1 :=
  ⟨h.kp.trans (.of_below hb), h.ol.below hb, h.or.below hb, h.on.below hb, h.om.below hb, (hb.block _ (Array.getElem?_eq_some_iff.1 h.hb).1).trans h.hb, h.hl, h.n1⟩
theorem OutR.start (h : OutR T ei es bo vC W5 l r nx mk vL vR vN vM w) : InR ei W5.heap.size vL.ownBlock vR.ownBlock w l r [] vL vR (.slice none 0 0) w :=
  ⟨Kp.refl _ _, h.ol, h.or, OwnS.nil _ _ _ _ _, fun k hk => .inl hk.symm, fun k hk => .inl hk.symm, h.n1, fun k _ e => by simp [Value.ownBlock] at e, fun k _ e => by simp [Value.ownBlock] at e⟩
/-- The inner loop has ended. -/
theorem OutR.inner (h : OutR T ei es bo vC W5 l r nx mk vL vR vN vM w) (hi : InR ei W5.heap.size vL.ownBlock vR.ownBlock w l' r' X vL' vR' vX w1) : OutR T ei es bo vC W5 l' r' nx mk vL' vR' vN vM w1 := by
  have hbo : ¬ (some bo = vL.ownBlock ∨ some bo = vR.ownBlock) := fun e => by
    have := h.hl
    rcases e with e | e
    · have := (h.ol.lt _ e.symm).1; omega
    · have := (h.or.lt _ e.symm).1; omega
  have hF : ∀ (v : Value), ∀ k, (W5.heap.size ≤ k ∧ some k ≠ vL.ownBlock ∧ some k ≠ vR.ownBlock ∧ some k ≠ v.ownBlock) ∧ k < w.heap.size → W5.heap.size ≤ k ∧ some k ≠ vL'.ownBlock ∧ some k ≠ vR'.ownBlock ∧ some k ≠ v.ownBlock := fun v k hk =>
    ⟨hk.1.1, fun e => by
      rcases hi.al k e.symm with h1 | h1
      · exact hk.1.2.1 h1
      · omega, fun e => by
      rcases hi.ar k e.symm with h1 | h1
      · exact hk.1.2.2.1 h1
      · omega, hk.1.2.2.2⟩
  refine ⟨⟨hi.kp.os.trans h.kp.os, hi.kp.tape.trans h.kp.tape, hi.kp.output.trans h.kp.output, Nat.le_trans h.kp.size hi.kp.size, fun k hk hn => (hi.kp.block k (Nat.lt_of_lt_of_le hk h.kp.size) fun e => ?_).trans (h.kp.block k hk hn)⟩, hi.ol, hi.or, ?_, ?_, hi.kp.heap h.hb hbo, h.hl, hi.n1⟩
  · rcases e with e | e
    · have := (h.ol.lt _ e.symm).1; omega
    · have := (h.or.lt _ e.symm).1; omega
  · refine (h.on.bound.keep hi.kp fun k hk _ e => ?_).mono fun k hk => hF vM k hk
    rcases e with e | e
    · exact hk.1.2.1 e
    · exact hk.1.2.2.1 e
  · refine (h.om.bound.keep hi.kp fun k hk _ e => ?_).mono fun k hk => hF vN k hk
    rcases e with e | e
    · exact hk.1.2.1 e
    · exact hk.1.2.2.1 e
theorem OutR.putN (h : OutR T ei es bo vC W5 l r nx mk vL vR vN vM w) (hO : OwnS KintF es w1 W5.heap.size (fun k => W5.heap.size ≤ k ∧ some k ≠ vL.ownBlock ∧ some k ≠ vR.ownBlock ∧ some k ≠ vM.ownBlock) vN' nx') (hM : Mov w w1 vN.ownBlock vN'.ownBlock) :
    OutR T ei es bo vC W5 l r nx' mk vL vR vN' vM (w1.setCell ⟨bo, 1, none⟩ vN') := by
  have hne : ∀ k, W5.heap.size ≤ k → (w1.setCell ⟨bo, 1, none⟩ vN').heap[k]? = w1.heap[k]? := fun k hk => Below.heap_setCell _ _ _ k (by have := h.hl; show k ≠ bo; omega)
  have nL : ∀ k, vN.ownBlock = some k → vL.ownBlock ≠ some k := fun k hk e => (h.on.1 k hk).2.1 e.symm
  have nR : ∀ k, vN.ownBlock = some k → vR.ownBlock ≠ some k := fun k hk e => (h.on.1 k hk).2.2.1 e.symm
  have hbn : some bo ≠ vN.ownBlock := fun e => by have := (h.on.lt _ e.symm).1; have := h.hl; omega
  refine ⟨(h.kp.mov_after hM fun k hk => .inr (h.on.lt k hk).1).setCell ⟨bo, 1, none⟩ rfl _, (h.ol.mov flatInt hM (sep_or nL)).step fun k hk _ => hne k hk, (h.or.mov flatInt hM (sep_or nR)).step fun k hk _ => hne k hk, hO.step fun k hk _ => hne k hk.1, ?_, ?_, h.hl, h.n1⟩
  · refine (OwnS.mono (h.om.away hM fun k hk => hk.2.2.2) fun k hk => ⟨hk.1.1, hk.1.2.1, hk.1.2.2.1, hk.2⟩).step fun k hk _ => hne k hk.1
  · have := setCell_heap w1 bo 1 _ _ _ vN' (hM.heap h.hb hbn)
    simpa using this
theorem OutR.putM (h : OutR T ei es bo vC W5 l r nx mk vL vR vN vM w) (hO : OwnS KintF es w1 W5.heap.size (fun k => W5.heap.size ≤ k ∧ some k ≠ vL.ownBlock ∧ some k ≠ vR.ownBlock ∧ some k ≠ vN.ownBlock) vM' mk') (hM : Mov w w1 vM.ownBlock vM'.ownBlock) :
    OutR T ei es bo vC W5 l r nx mk' vL vR vN vM' (w1.setCell ⟨bo, 2, none⟩ vM') := by
  have hne : ∀ k, W5.heap.size ≤ k → (w1.setCell ⟨bo, 2, none⟩ vM').heap[k]? = w1.heap[k]? := fun k hk => Below.heap_setCell _ _ _ k (by have := h.hl; show k ≠ bo; omega)
  have nL : ∀ k, vM.ownBlock = some k → vL.ownBlock ≠ some k := fun k hk e => (h.om.1 k hk).2.1 e.symm
  have nR : ∀ k, vM.ownBlock = some k → vR.ownBlock ≠ some k := fun k hk e => (h.om.1 k hk).2.2.1 e.symm
  have hbn : some bo ≠ vM.ownBlock := fun e => by have := (h.om.lt _ e.symm).1; have := h.hl; omega
  refine ⟨(h.kp.mov_after hM fun k hk => .inr (h.om.lt k hk).1).setCell ⟨bo, 2, none⟩ rfl _, (h.ol.mov flatInt hM (sep_or nL)).step fun k hk _ => hne k hk, (h.or.mov flatInt hM (sep_or nR)).step fun k hk _ => hne k hk, ?_, hO.step fun k hk _ => hne k hk.1, ?_, h.hl, h.n1⟩
  · refine (OwnS.mono (h.on.away hM fun k hk => hk.2.2.2) fun k hk => ⟨hk.1.1, hk.1.2.1, hk.1.2.2.1, hk.2⟩).step fun k hk _ => hne k hk.1
  · have := setCell_heap w1 bo 2 _ _ _ vM' (hM.heap h.hb hbn)
    simpa using this
end
/-- Where a byte leads to. -/
theorem nxt_lookM {d : Dfa} (h : rightB d = true) {p : Nat} (hp : p < d.next.length) {m : Nat} (hm : m < 256) :
    ∃ y : Nat, clsOf d.cls m < d.cls.length ∧ d.next[p]? = some d.next[p] ∧ d.next[p][clsOf d.cls m]? = some (y : Int) ∧ y = ((d.next.getD p []).getD (clsOf d.cls m) 0).toNat ∧ y < d.next.length := by
  obtain ⟨hl, hr⟩ := right_row h hp
  have hc : clsOf d.cls m < d.cls.length := by
    have := clsOf_lt d.cls hm
    rwa [right_parts h] at this
  have hb : clsOf d.cls m < d.next[p].length := by rw [hl]; exact hc
  have hx := hr _ (List.getElem_mem hb)
  have e1 : (d.next.getD p []) = d.next[p] := by simp [List.getD_eq_getElem?_getD, List.getElem?_eq_getElem hp]
  have e2 : (d.next[p]).getD (clsOf d.cls m) 0 = d.next[p][clsOf d.cls m] := by rw [List.getD_eq_getElem?_getD, List.getElem?_eq_getElem hb]; rfl
  refine ⟨(d.next[p][clsOf d.cls m]).toNat, hc, List.getElem?_eq_getElem hp, ?_, by rw [e1, e2], by omega⟩
  rw [List.getElem?_eq_getElem hb, Int.toNat_of_nonneg hx.1]
/-- The first place of a pair. -/
theorem idx_first {l : List PP} {q : PP} {t : Nat} (h0 : ∀ j (hj : j < l.length), j < t → l[j] ≠ q) (ht : t ≤ l.length) (h1 : ∀ h : t < l.length, l[t] = q) : l.idxOf q = t := by
  rcases Nat.lt_or_ge t l.length with h | h
  · have hm : q ∈ l := by rw [← h1 h]; exact List.getElem_mem h
    have hi := List.idxOf_lt_length_of_mem hm
    have hg := List.getElem_idxOf hi
    rcases Nat.lt_trichotomy (l.idxOf q) t with h2 | h2 | h2
    · exact absurd hg (h0 _ hi h2)
    · exact h2
    · unfold List.idxOf at h2
      have := List.not_of_lt_findIdx h2
      simp [h1 h] at this
  · obtain rfl : t = l.length := by omega
    apply List.idxOf_eq_length
    intro hm
    obtain ⟨j, hj, e⟩ := List.getElem_of_mem hm
    exact h0 j hj hj e
end Rp
end
