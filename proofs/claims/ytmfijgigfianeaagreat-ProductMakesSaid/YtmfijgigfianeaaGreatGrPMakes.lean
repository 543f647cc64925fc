/- ProductMakes: the walk. -/
import Derived.Test.YtmfijgigfianeaaGreatGrAwakeQ
import Derived.Test.YtmfijgigfianeaaGreatGrMakesA
import Derived.Test.YtmfijgigfianeaaGreatGrSmall
set_option linter.unusedVariables false
set_option linter.unusedSimpArgs false
namespace Go.Proofs
open Go Go.RowKit Rp
set_option maxRecDepth 100000
set_option maxHeartbeats 3200000
theorem c_pMakes0 (A1 A2 A3 B1 B2 B3 : Option Addr) (k1 k2 k3 m1 m2 m3 : Nat) (a b : Dfa) (op : Nat) (fuel : Int) (F G : Nat → Prop) (w : World) (hop : op < 256) (ra : DfaR w F ⟨A1, k1, A2, k2, A3, k3⟩ a) (rb : DfaR w G ⟨B1, m1, B2, m2, B3, m3⟩ b)
    (na : ∀ l ∈ a.next, l.length ≤ 140737488355328) (ma : ∀ l ∈ a.marks, l.length ≤ 140737488355328) (nb : ∀ l ∈ b.next, l.length ≤ 140737488355328) (mb : ∀ l ∈ b.marks, l.length ≤ 140737488355328) :
    Calls Tryz.prog 3 #[.agg #[.slice A1 a.cls.length k1, .slice A2 a.next.length k2, .slice A3 a.marks.length k3], .agg #[.slice B1 b.cls.length m1, .slice B2 b.next.length m2, .slice B3 b.marks.length m3], .int .u8 (op : Int), .int .i64 fuel] w
      fun e w' => e = .returned (.bool true) ∧ Below w.heap.size w w' := by
  go_enter Tryz.func3, Tryz.ntmps3
  go_upto_region 1 with (fail)
  refine wp_name fun W0 hW0 => ?_
  have hBw : Below w.heap.size w W0 := by
    rw [← hW0]
    iterate 2 refine Below.alloc ?_ (by (repeat rw [World.size_alloc]); omega) _
    exact Below.refl _ _
  have L1 : LdS W0 w.heap.size ⟨A1, k1, A2, k2, A3, k3⟩ a := by
    rw [← hW0]
    exact LdS.below ⟨World.alloc_heap_new w _, (ra.mono fun _ _ => trivial).below ((Below.refl _ w).alloc (Nat.le_refl _) _)⟩ ((Below.refl _ _).alloc (Nat.le_refl _) _)
  have L2 : LdS W0 (w.heap.size + 1) ⟨B1, m1, B2, m2, B3, m3⟩ b := by
    rw [← hW0]
    have h : LdS ((w.alloc (.cells (dfaC ⟨A1, k1, A2, k2, A3, k3⟩ a) 25)).alloc (.cells (dfaC ⟨B1, m1, B2, m2, B3, m3⟩ b) 25)) (w.alloc (.cells (dfaC ⟨A1, k1, A2, k2, A3, k3⟩ a) 25)).heap.size ⟨B1, m1, B2, m2, B3, m3⟩ b :=
      ⟨World.alloc_heap_new _ _, ((rb.mono fun _ _ => trivial).below ((Below.refl _ w).alloc (Nat.le_refl _) _)).below ((Below.refl _ _).alloc (Nat.le_refl _) _)⟩
    rwa [World.size_alloc] at h
  obtain ⟨g1, hg1⟩ : ∃ g, g = w.heap.size := ⟨_, rfl⟩
  obtain ⟨g2, hg2⟩ : ∃ g, g = w.heap.size + 1 := ⟨_, rfl⟩
  rw [← hg1] at L1
  rw [← hg2] at L2
  have HBw := Lib.hid hBw
  rw [← hg2, ← hg1]
  clear hg1 hg2 hW0 ra rb hBw
  have HS1 := Lib.hid (fun W' (hW' : Below W0.heap.size W0 W') => c_small _ a _ W' (L1.below hW').p na ma)
  have HS2 := Lib.hid (fun W' (hW' : Below W0.heap.size W0 W') => c_small _ b _ W' (L2.below hW').p nb mb)
  have HM := Lib.hid (fun (sa : smallB a = true) (sb : smallB b = true) W' (hW' : Below W0.heap.size W0 W') => c_makes _ _ a b op fuel _ _ W' hop (L1.below hW').p (L2.below hW').p (small_sizes sa) (small_sizes sb))
  have HC1 := Lib.hid (fun W' (hW' : Below W0.heap.size W0 W') => cells3 (L1.below hW').r)
  have HC2 := Lib.hid (fun W' (hW' : Below W0.heap.size W0 W') => cells3 (L2.below hW').r)
  simp only [dfaV, dfaC] at HS1 HS2 HM
  obtain ⟨a0, a1, a2⟩ := HC1.out W0 (Below.refl _ _)
  dsimp only at a0 a1 a2
  clear L1 L2 na ma nb mb
  have hs1 := HS1.out W0 (Below.refl _ _)
  cases sa : smallB a with
  | false =>
    rw [sa] at hs1
    go_wp2_with (first
      | (go_at_call 6; refine hs1.mono ?_; rintro e w1 ⟨rfl, hB1⟩)
      | (go_at_call 8; refine (c_awake w1).mono ?_; rintro e w2 ⟨rfl, hB2⟩))
    have hB := HBw.out.trans ((hB1.trans (hB2.mono hB1.size)).mono HBw.out.size)
    go_ret
    exact ⟨rfl, hB⟩
  | true =>
    rw [sa] at hs1
    have hs2 := fun W' hW' => HS2.out W' hW'
    cases sb : smallB b with
    | false =>
      rw [sb] at hs2
      go_wp2_with (first
        | (go_at_call 6; with_reducible refine hs1.mono ?_; rintro e w1 ⟨rfl, hB1⟩; obtain ⟨b0, b1, b2⟩ := HC2.out w1 hB1; (try dsimp only at b0 b1 b2))
        | (go_at_call 6; with_reducible refine (hs2 w1 hB1).mono ?_; rintro e w2 ⟨rfl, hB2⟩)
        | (go_at_call 8; refine (c_awake w2).mono ?_; rintro e w3 ⟨rfl, hB3⟩))
      have hB02 := hB1.trans (hB2.mono hB1.size)
      have hB := HBw.out.trans ((hB02.trans (hB3.mono hB02.size)).mono HBw.out.size)
      go_ret
      exact ⟨rfl, hB⟩
    | true =>
      rw [sb] at hs2
      have hm := fun W' hW' => HM.out sa sb W' hW'
      go_wp2_with (first
        | (go_at_call 6; with_reducible refine hs1.mono ?_; rintro e w1 ⟨rfl, hB1⟩; obtain ⟨b0, b1, b2⟩ := HC2.out w1 hB1; (try dsimp only at b0 b1 b2))
        | (go_at_call 6; with_reducible refine (hs2 w1 hB1).mono ?_; rintro e w2 ⟨rfl, hB2⟩; have hB02 := hB1.trans (hB2.mono hB1.size)
           obtain ⟨c0, c1, c2⟩ := HC1.out w2 hB02; obtain ⟨d0, d1, d2⟩ := HC2.out w2 hB02; (try dsimp only at c0 c1 c2 d0 d1 d2))
        | (go_at_call 7; with_reducible refine (hm w2 hB02).mono ?_; rintro e w3 ⟨rfl, hB3⟩)
        | (go_at_call 8; refine (c_awake w3).mono ?_; rintro e w4 ⟨rfl, hB4⟩))
      have hB03 := hB02.trans (hB3.mono hB02.size)
      have hB := HBw.out.trans ((hB03.trans (hB4.mono hB03.size)).mono HBw.out.size)
      go_ret
      exact ⟨rfl, hB⟩
theorem c_pMakes (ha hb : DA) (a b : Dfa) (op : Nat) (fuel : Int) (F G : Nat → Prop) (w : World) (hop : op < 256) (ra : DfaR w F ha a) (rb : DfaR w G hb b)
    (na : ∀ l ∈ a.next, l.length ≤ 140737488355328) (ma : ∀ l ∈ a.marks, l.length ≤ 140737488355328) (nb : ∀ l ∈ b.next, l.length ≤ 140737488355328) (mb : ∀ l ∈ b.marks, l.length ≤ 140737488355328) :
    Calls Tryz.prog 3 #[dfaV ha a, dfaV hb b, .int .u8 (op : Int), .int .i64 fuel] w fun e w' => e = .returned (.bool true) ∧ Below w.heap.size w w' := by
  obtain ⟨A1, k1, A2, k2, A3, k3⟩ := ha
  obtain ⟨B1, m1, B2, m2, B3, m3⟩ := hb
  exact c_pMakes0 A1 A2 A3 B1 B2 B3 k1 k2 k3 m1 m2 m3 a b op fuel F G w hop ra rb na ma nb mb
end Go.Proofs
