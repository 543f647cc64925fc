/- ProductMakes: for every two automata, every operation and every fuel the call returns true, and the arguments read behind it as they read before. Conditions: none of ours. -/
import Derived.Test.YtmfijgigfianeaaGreatRows
import Derived.Test.YtmfijgigfianeaaGreatGrRead
import Derived.Test.YtmfijgigfianeaaGreatGrPMakes
import Derived.WalkKit
import Derived.ProofKit
import Derived.OpenShut
import Derived.ChangeOld
import Derived.Below
import Derived.SizedLaws
namespace Go.Proofs.YtmfijgigfianeaaGreat
open Go.ChangeShapes Go.WideShapes Go.ChangeAt Go.RowKit Rp
set_option linter.unusedVariables false
theorem own : ownKnob Tryz.prog.godebug = none := by kernel_rfl
theorem laidOut : laidOutB Tryz.prog = true := by kernel_rfl
set_option maxRecDepth 100000 in
theorem mk_lifted (os : Os) (started : os.Started) (H : Type) (enc : TypeId × Value → H) :
    ReturnsInHanded {} Tryz.checked os 3 .any (Rows.productMakesSpec.pre6 enc Tryz.prog Tryz.f3 Rows.productMakesRow.domain false) (Rows.productMakesSpec.post enc Tryz.prog Tryz.f3 false true false false) := by
  refine returnsInHanded_of_change_sized (C := Tryz.checked) own started (by kernel_rfl) Tryz.func3
    (ChangeSpec.witness6 (enc := enc) (C := Tryz.checked) false ⟨#[], #[.agg #[.slice none 0 0, .slice none 0 0, .slice none 0 0], .agg #[.slice none 0 0, .slice none 0 0, .slice none 0 0], .int .u8 0, .int .i64 0], []⟩ 8 (by kernel_rfl) (by kernel_rfl) (by kernel_rfl) (by kernel_rfl)) ?_
  intro W base args ds gs before hval0 hW hcnd hsz0 _
  have hval : ∀ (j : Nat) t v, Tryz.f3.params[j]? = some t → args[j]? = some v → Value.okWide Tryz.prog W .any base t v := hval0
  have hW' := hW
  obtain ⟨p, q, hA0, hV, rfl, hfz, hnd⟩ := hW
  have hA : DataW.TrodAll enc Tryz.prog W 0 (fun _ => true) true Tryz.f3.params.toList args.toList ds p := hA0
  have hsz : (DataW.weightsEach Tryz.prog (Tryz.f3.params.toList ++ Rows.productMakesSpec.plain.varTypes Tryz.prog) (ds ++ gs)).all (· ≤ reachBytes) = true := hsz0
  rw [Tryz.params3] at hA hval hsz
  obtain ⟨v0, v1, v2, v3, d0, d1, d2, d3, p0, p1, p2, p3, rfl, rfl, rfl, h0, h1, h2, h3⟩ := trodAll_four hA
  obtain ⟨rfl, rfl⟩ := trodVars_none hV
  have k0 := h0
  have k1 := h1
  have lt0 : ∀ x ∈ p0, x.block < W.heap.size := by obtain ⟨m, hm⟩ := k0; exact DataW.trod_lt m _ _ _ hm
  have lt1 : ∀ x ∈ p1, x.block < W.heap.size := by obtain ⟨m, hm⟩ := k1; exact DataW.trod_lt m _ _ _ hm
  have z : ∀ n ∈ DataW.weightsEach Tryz.prog [25, 25, 26, 3] [d0, d1, d2, d3], n ≤ reachBytes := fun n hn => by
    have := List.all_eq_true.1 hsz n hn
    simpa using this
  have z0 : ∀ n ∈ d0.weights Tryz.prog 25, n ≤ reachBytes := fun n hn => z n (DataW.weights_mem_each (j := 0) rfl rfl n hn)
  have z1 : ∀ n ∈ d1.weights Tryz.prog 25, n ≤ reachBytes := fun n hn => z n (DataW.weights_mem_each (j := 1) rfl rfl n hn)
  obtain ⟨ha, a, rfl, ra, na⟩ := read_dfa (hval 0 25 v0 rfl rfl) h0
  obtain ⟨hb, b, rfl, rb, nb⟩ := read_dfa (hval 1 25 v1 rfl rfl) h1
  obtain ⟨o, rfl, rfl, rfl, wo⟩ := open_int Tryz.underlying26 (hval 2 26 v2 rfl rfl) h2
  obtain ⟨f, rfl, rfl, rfl, wf⟩ := open_int Tryz.underlying3 (hval 3 3 v3 rfl rfl) h3
  have na := na z0
  have nb := nb z1
  have bo := bounds_u8 wo
  obtain ⟨op, rfl⟩ : ∃ op : Nat, o = (op : Int) := ⟨o.toNat, by omega⟩
  clear hA0 hval0
  refine (c_pMakes ha hb a b op f _ _ W (by omega) ra rb na.1 na.2 nb.1 nb.2).mono fun e W' ⟨he, bel⟩ => ?_
  subst he
  exact ⟨_, rfl, _, _, _, [], _, [], hW', trodAll_mk1 (shut_bool Tryz.underlying4 _), trodAll_mk4 (Below.trod laidOut (by kernel_rfl) (of_decide_eq_true (by kernel_rfl)) k0 bel lt0) (Below.trod laidOut (by kernel_rfl) (of_decide_eq_true (by kernel_rfl)) k1 bel lt1) (shut_int Tryz.underlying26 wo) (shut_int Tryz.underlying3 wf), rfl, bel.frame _, fun h => by cases h⟩
/-- ProductMakes: the given statement. -/
theorem productMakes_holds : Rows.ProductMakesSaid :=
  OpenClaim.holds_of_wide 3 Tryz.f3 rfl rfl rfl rfl rfl rfl rfl ⟨rfl, rfl, rfl, rfl, rfl⟩ rfl rfl rfl rfl rfl (by kernel_rfl) Tryz.func3 (by kernel_rfl)
    (of_decide_eq_true (by kernel_rfl)) (by unfold Func.isWrapper; first | (rw [if_pos (by decide +kernel)]; kernel_rfl) | (rw [if_neg (by decide +kernel)]; exact ⟨rfl, rfl⟩))
    (fun os started H enc _ => mk_lifted os started H enc)
#print axioms productMakes_holds
end Go.Proofs.YtmfijgigfianeaaGreat
