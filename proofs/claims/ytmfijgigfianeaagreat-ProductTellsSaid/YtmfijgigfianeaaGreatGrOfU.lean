/- The reference's product, whole. -/
import Derived.Test.YtmfijgigfianeaaGreatGrOfV
set_option linter.unusedVariables false
set_option linter.unusedSimpArgs false
namespace Go.Proofs
open Go.RowKit Go.Shelf Rp Go.Maps
theorem c_refProd (ha hb : DA) (a b : Dfa) (op : Nat) (fuel : Int) (F G : Nat → Prop) (w : World) (hop : op < 256) (ra : DfaU w F ha a) (rb : DfaU w G hb b) :
    Calls Tryz.prog 17 #[dfaV ha a, dfaV hb b, .int .i64 (op : Int), .int .i64 fuel] w
      fun e w' => ∃ h', e = .returned (.tuple #[dfaV h' (ofB a b op fuel).1, .int .i64 (ofB a b op fuel).2]) ∧ DfaW w' w.heap.size h' (ofB a b op fuel).1 ∧ Below w.heap.size w w' := by
  cases he : errB a b op fuel with
  | none => exact c_ofv ha.A1 ha.A2 ha.A3 hb.A1 hb.A2 hb.A3 ha.c1 ha.c2 ha.c3 hb.c1 hb.c2 hb.c3 a b op fuel F G w hop ra rb he
  | some n =>
    refine (c_ofw ha hb a b op fuel F G w hop ra rb n he).mono ?_
    rintro e w' ⟨rfl, hB⟩
    exact ⟨nilDA, by rw [errB_ofB he], by rw [errB_ofB he]; exact noDfaW _ _, hB⟩
end Go.Proofs
