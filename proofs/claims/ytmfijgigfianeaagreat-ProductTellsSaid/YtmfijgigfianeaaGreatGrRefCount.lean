/- The reference's Count: the count, its refusals, its bound. -/
import Derived.Test.YtmfijgigfianeaaGreatGrRefCnt
set_option linter.unusedVariables false
set_option linter.unusedSimpArgs false
namespace Go.Proofs
open Go Go.RowKit Go.Shelf Rp Go.Maps
attribute [local go_sem] Oper.semAt_some
set_option maxRecDepth 100000 in
set_option maxHeartbeats 1600000 in
theorem c_refCount0 (A1 A2 A3 : Option Addr) (k1 k2 k3 : Nat) (d : Dfa) (n most : Int) (F : Nat → Prop) (w : World) (hr : rightB d = true) (hT : DfaT w F ⟨A1, k1, A2, k2, A3, k3⟩ d) :
    Calls Tryz.prog 32 #[.agg #[.slice A1 d.cls.length k1, .slice A2 d.next.length k2, .slice A3 d.marks.length k3], .int .i64 n, .int .i64 most] w
      fun e w' => e = .returned (.tuple #[.int .i64 (countB d n most).1, .int .i64 (countB d n most).2]) ∧ Below w.heap.size w w' := by
  by_cases hb : n < 0 ∨ n > 64 ∨ most < 0 ∨ most > maxC
  · have e : countB d n most = (0, 2) := by unfold countB; rw [if_pos hr, if_pos hb]
    rw [e]
    simp only [maxC] at hb
    have HB := Lib.hid hb
    clear hb e hT hr
    have hB0 : ∀ o, Below w.heap.size w (w.alloc o) := fun o => (Below.refl _ _).alloc (Nat.le_refl _) o
    by_cases h1 : n < 0
    · clear HB
      go_enter Tryz.func32, Tryz.ntmps32
      go_wp2
      go_ret2
      exact ⟨rfl, hB0 _⟩
    · by_cases h2 : n > 64
      · clear HB
        go_enter Tryz.func32, Tryz.ntmps32
        go_wp2
        go_ret2
        exact ⟨rfl, hB0 _⟩
      · by_cases h3 : most < 0
        · clear HB
          go_enter Tryz.func32, Tryz.ntmps32
          go_wp2
          go_ret2
          exact ⟨rfl, hB0 _⟩
        · have h4 : most > 1099511627776 := by have := HB.out; omega
          clear HB
          go_enter Tryz.func32, Tryz.ntmps32
          go_wp2
          go_ret2
          exact ⟨rfl, hB0 _⟩
  · have e : countB d n most = (min ((cntAll d n.toNat).getD 0 0) most, 0) := by unfold countB; rw [if_pos hr, if_neg hb]
    rw [e]
    simp only [maxC] at hb
    have h1 : ¬ n < 0 := by omega
    have h2 : ¬ n > 64 := by omega
    have h3 : ¬ most < 0 := by omega
    have h4 : ¬ most > 1099511627776 := by omega
    obtain ⟨N, rfl⟩ : ∃ N : Nat, n = (N : Int) := ⟨n.toNat, by omega⟩
    have hcn := fun W' (hW' : Below w.heap.size w W') => c_refCnt0 A1 A2 A3 k1 k2 k3 d F hr N W' (by omega) (hT.below hW')
    have hcl := cntAll_len (right_len hr).2.2 N
    have hpos := (right_len hr).1
    have hrg := (cntAll_bnd d N).at 0
    rw [Int.toNat_natCast]
    have h0 : (cntAll d N)[0]? = some ((cntAll d N).getD 0 0) := by rw [List.getD_eq_getElem?_getD, List.getElem?_eq_getElem (by omega)]; rfl
    generalize (cntAll d N).getD 0 0 = m at *
    have H0 := Lib.hid h0
    clear hT hb e h0
    go_enter Tryz.func32, Tryz.ntmps32
    go_upto_region 3 with (fail)
    refine wp_name fun W0 hW0 => ?_
    have q0 : W0.heap[w.heap.size]? = some (.cells #[.slice A1 d.cls.length k1, .slice A2 d.next.length k2, .slice A3 d.marks.length k3] 42 (0, 0)) := by
      rw [← hW0]; exact World.alloc_heap_new w _
    have hB0 : Below w.heap.size w W0 := by rw [← hW0]; exact (Below.refl _ _).alloc (Nat.le_refl _) _
    clear hW0
    obtain ⟨c0, c1, c2⟩ := cells3 q0
    have hc := hcn W0 hB0
    have hNN : (0 : Int) < d.next.length := by omega
    clear hcn
    go_upto_region 4 with (go_at_call 59; refine hc.mono ?_; rintro e w1 ⟨g, rfl, hO, hB1⟩; obtain ⟨u0, _, _, _, _, _⟩ := hO.at1 H0.out; clear hO)
    have HB := Lib.hid (hB0.trans (hB1.mono hB0.size))
    clear hc hB0 hB1 q0 c0 c1 c2 u0
    by_cases hm : m > most
    · have e : min m most = most := by omega
      have HE := Lib.hid e
      clear e
      go_wp2
      go_ret2
      exact ⟨by rw [HE.out]; rfl, HB.out⟩
    · have e : min m most = m := by omega
      have HE := Lib.hid e
      clear e
      go_wp2
      go_ret2
      exact ⟨by rw [HE.out]; rfl, HB.out⟩
theorem c_refCount (h : DA) (d : Dfa) (n most : Int) (F : Nat → Prop) (w : World) (hr : rightB d = true) (hT : DfaT w F h d) :
    Calls Tryz.prog 32 #[dfaV h d, .int .i64 n, .int .i64 most] w
      fun e w' => e = .returned (.tuple #[.int .i64 (countB d n most).1, .int .i64 (countB d n most).2]) ∧ Below w.heap.size w w' := by
  obtain ⟨A1, k1, A2, k2, A3, k3⟩ := h
  exact c_refCount0 A1 A2 A3 k1 k2 k3 d n most F w hr hT
end Go.Proofs
