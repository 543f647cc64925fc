/- ProductTells: the walk. -/
import Derived.Test.YtmfijgigfianeaaGreatGrAwakeQ
import Derived.Test.YtmfijgigfianeaaGreatGrTells
import Derived.Test.YtmfijgigfianeaaGreatGrSmall
set_option linter.unusedVariables false
set_option linter.unusedSimpArgs false
namespace Go.Proofs
open Go Go.RowKit Rp
set_option maxRecDepth 100000
set_option maxHeartbeats 3200000
theorem c_pTells0 (A1 A2 A3 : Option Addr) (k1 k2 k3 : Nat) (a : Dfa) (n most : Int) (F : Nat → Prop) (w : World) (ra : DfaR w F ⟨A1, k1, A2, k2, A3, k3⟩ a)
    (na : ∀ l ∈ a.next, l.length ≤ 140737488355328) (ma : ∀ l ∈ a.marks, l.length ≤ 140737488355328) :
    Calls Tryz.prog 4 #[.agg #[.slice A1 a.cls.length k1, .slice A2 a.next.length k2, .slice A3 a.marks.length k3], .int .i64 n, .int .i64 most] w
      fun e w' => e = .returned (.bool true) ∧ Below w.heap.size w w' := by
  go_enter Tryz.func4, Tryz.ntmps4
  go_upto_region 1 with (fail)
  refine wp_name fun W0 hW0 => ?_
  have hBw : Below w.heap.size w W0 := by
    rw [← hW0]
    iterate 1 refine Below.alloc ?_ (by (repeat rw [World.size_alloc]); omega) _
    exact Below.refl _ _
  have L1 : LdS W0 w.heap.size ⟨A1, k1, A2, k2, A3, k3⟩ a := by
    rw [← hW0]
    exact ⟨World.alloc_heap_new w _, (ra.mono fun _ _ => trivial).below ((Below.refl _ w).alloc (Nat.le_refl _) _)⟩
  obtain ⟨g1, hg1⟩ : ∃ g, g = w.heap.size := ⟨_, rfl⟩
  rw [← hg1] at L1
  have HBw := Lib.hid hBw
  rw [← hg1]
  clear hg1 hW0 ra hBw
  have HS1 := Lib.hid (fun W' (hW' : Below W0.heap.size W0 W') => c_small _ a _ W' (L1.below hW').p na ma)
  have HM := Lib.hid (fun (sa : smallB a = true) W' (hW' : Below W0.heap.size W0 W') => c_tells _ a n most _ W' (L1.below hW').p (small_sizes sa))
  have HC1 := Lib.hid (fun W' (hW' : Below W0.heap.size W0 W') => cells3 (L1.below hW').r)
  simp only [dfaV, dfaC] at HS1 HM
  obtain ⟨a0, a1, a2⟩ := HC1.out W0 (Below.refl _ _)
  dsimp only at a0 a1 a2
  clear L1 na ma
  have hs1 := HS1.out W0 (Below.refl _ _)
  cases sa : smallB a with
  | false =>
    rw [sa] at hs1
    go_wp2_with (first
      | (go_at_call 6; refine hs1.mono ?_; rintro e w1 ⟨rfl, hB1⟩)
      | (go_at_call 8; refine (c_awake w1).mono ?_; rintro e w2 ⟨rfl, hB2⟩))
    have hB := HBw.out.trans ((hB1.trans (hB2.mono hB1.size)).mono HBw.out.size)
    go_ret
    exact ⟨rfl, hB⟩
  | true =>
    rw [sa] at hs1
    have hm := fun W' hW' => HM.out sa W' hW'
    go_wp2_with (first
      | (go_at_call 6; with_reducible refine hs1.mono ?_; rintro e w1 ⟨rfl, hB1⟩; obtain ⟨c0, c1, c2⟩ := HC1.out w1 hB1; (try dsimp only at c0 c1 c2))
      | (go_at_call 9; with_reducible refine (hm w1 hB1).mono ?_; rintro e w3 ⟨rfl, hB3⟩)
      | (go_at_call 8; refine (c_awake w3).mono ?_; rintro e w4 ⟨rfl, hB4⟩))
    have hB03 := hB1.trans (hB3.mono hB1.size)
    have hB := HBw.out.trans ((hB03.trans (hB4.mono hB03.size)).mono HBw.out.size)
    go_ret
    exact ⟨rfl, hB⟩
theorem c_pTells (ha : DA) (a : Dfa) (n most : Int) (F : Nat → Prop) (w : World) (ra : DfaR w F ha a)
    (na : ∀ l ∈ a.next, l.length ≤ 140737488355328) (ma : ∀ l ∈ a.marks, l.length ≤ 140737488355328) :
    Calls Tryz.prog 4 #[dfaV ha a, .int .i64 n, .int .i64 most] w fun e w' => e = .returned (.bool true) ∧ Below w.heap.size w w' := by
  obtain ⟨A1, k1, A2, k2, A3, k3⟩ := ha
  exact c_pTells0 A1 A2 A3 k1 k2 k3 a n most F w ra na ma
end Go.Proofs
