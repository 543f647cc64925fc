/-
  No cell of these rows narrows 'for every input' (looked for: loops, veiled, ifaces, maps, wideKeys, modest, calm, conditions, laid).
  DERIVED. THE GIVEN ROWS OF THIS SEAT. 3 by the template 'for every input the law returns true; each argument reads behind the call as it read before'; 0 by the template 'total and deterministic' (their statements: YtmfijgigfianeaaGreatTotals.lean).
  GIVEN WITH THE SEED: the statements are not yours to turn. If you find one false, say at which input.
  Laid BY PROGRAM, IN A SANDBOX (cutbox-rows.mjs): the forced cells as the released guide's own fill.sh prints them over the translation c8b455cfee52c335… (all of the seat's roots in one cut). By AI agents, Wed Nov 11 2026. No macro, syntax, notation, axiom, sorry.
-/
import Derived.Test.YtmfijgigfianeaaGreatChecked
import GoSem.Claim
import GoSem.ClaimJoined
import GoSem.ClaimMapViews
import Derived.JoinedTies
import Derived.KernelRfl
namespace Go.Proofs.YtmfijgigfianeaaGreat
/- THE CELL 'sum', in the pinned program and in every row, IS THE sha256 OF THE DUMP (.gsa) THAT YtmfijgigfianeaaGreatProg.lean LOADS. Nothing in Lean hashes anything: it is a label: what it is worth is what the hold of that sum in a sandbox is worth. -/
noncomputable def Tryz.pinned : Pinned := { name := "ytmfijgigfianeaagreat", sum := "c8b455cfee52c335948da896611677fcd89044e148d17b7d34726e1af5e6b88a", checked := Tryz.checked }
namespace Rows
def none {H : Type} : Left H := { results := [], args := [] }

/-- 'reparteelaw19.ProductMakes': WHATEVER THE INPUT: true; the input reads as it did. -/
def productMakesSpec : ChangeSpec := { name := "productMakes", fn := fun _ => fun
  | [d1, d2, d3, d4] => { results := [.lit (.bool true)], args := [d1, d2, d3, d4] }
  | _ => none }
def productMakesRow : OpenClaim := { program := "ytmfijgigfianeaagreat", sum := "c8b455cfee52c335948da896611677fcd89044e148d17b7d34726e1af5e6b88a", func := "repartee/reparteelaw19.ProductMakes", spec := "productMakes", unfollowed := true, recurses := true, plainKeys := false, apart := false }
def ProductMakesSaid : Prop := productMakesRow.holds Tryz.pinned (OpenSpec.ofChange productMakesSpec)

/-- ITS FALSE NEIGHBOUR: 'it returns false'. Refute it at one input. -/
def productMakesWrong : ChangeSpec := { name := "productMakes", fn := fun _ => fun
  | [d1, d2, d3, d4] => { results := [.lit (.bool false)], args := [d1, d2, d3, d4] }
  | _ => none }
def ProductMakesWrongFalsely : Prop := productMakesRow.holds Tryz.pinned (OpenSpec.ofChange productMakesWrong)

/-- 'reparteelaw19.ProductTells': WHATEVER THE INPUT: true; the input reads as it did. -/
def productTellsSpec : ChangeSpec := { name := "productTells", fn := fun _ => fun
  | [d1, d2, d3] => { results := [.lit (.bool true)], args := [d1, d2, d3] }
  | _ => none }
def productTellsRow : OpenClaim := { program := "ytmfijgigfianeaagreat", sum := "c8b455cfee52c335948da896611677fcd89044e148d17b7d34726e1af5e6b88a", func := "repartee/reparteelaw19.ProductTells", spec := "productTells", unfollowed := true, recurses := true, plainKeys := false, apart := false }
def ProductTellsSaid : Prop := productTellsRow.holds Tryz.pinned (OpenSpec.ofChange productTellsSpec)

/-- ITS FALSE NEIGHBOUR: 'it returns false'. Refute it at one input. -/
def productTellsWrong : ChangeSpec := { name := "productTells", fn := fun _ => fun
  | [d1, d2, d3] => { results := [.lit (.bool false)], args := [d1, d2, d3] }
  | _ => none }
def ProductTellsWrongFalsely : Prop := productTellsRow.holds Tryz.pinned (OpenSpec.ofChange productTellsWrong)

/-- 'reparteelaw19.ProductSmall': WHATEVER THE INPUT: true; the input reads as it did. -/
def productSmallSpec : ChangeSpec := { name := "productSmall", fn := fun _ => fun
  | [] => { results := [.lit (.bool true)], args := [] }
  | _ => none }
def productSmallRow : OpenClaim := { program := "ytmfijgigfianeaagreat", sum := "c8b455cfee52c335948da896611677fcd89044e148d17b7d34726e1af5e6b88a", func := "repartee/reparteelaw19.ProductSmall", spec := "productSmall", unfollowed := true, recurses := true, plainKeys := false, apart := false }
def ProductSmallSaid : Prop := productSmallRow.holds Tryz.pinned (OpenSpec.ofChange productSmallSpec)

/-- ITS FALSE NEIGHBOUR: 'it returns false'. Refute it at one input. -/
def productSmallWrong : ChangeSpec := { name := "productSmall", fn := fun _ => fun
  | [] => { results := [.lit (.bool false)], args := [] }
  | _ => none }
def ProductSmallWrongFalsely : Prop := productSmallRow.holds Tryz.pinned (OpenSpec.ofChange productSmallWrong)

/- THE SECOND FORM. 'bulk': how many values and letters a reading holds, each counted each time it is reached (what is shared counts as often as it is met; a slice's spare places count too). A statement '..UptoSaid' is the law's where the arguments, and the package variables that the reading takes, are together of bulk at most 1048576: NARROWER than '..Said'. Prove '..Said' where nothing that the law and all that it calls make is longer than what came in: it says more and counts as full. Else prove '..UptoSaid'. A law counts once. -/
mutual
def uptoBulk {H : Type} : DataW H → Nat
  | .lit (.string bytes) => bytes.length + 1
  | .lit _ => 1
  | .nil => 1
  | .ptr d => uptoBulk d + 1
  | .slice elems spare => uptoBulkAll elems + uptoBulkAll spare + 1
  | .agg parts => uptoBulkAll parts + 1
  | .iface _ d => uptoBulk d + 1
  | .map entries => uptoBulkEntries entries + 1
  | .held _ => 1
def uptoBulkAll {H : Type} : List (DataW H) → Nat
  | [] => 0
  | d :: r => uptoBulk d + uptoBulkAll r
def uptoBulkEntries {H : Type} : List (Lit × DataW H) → Nat
  | [] => 0
  | x :: r => uptoBulkEntry x + uptoBulkEntries r
def uptoBulkEntry {H : Type} : Lit × DataW H → Nat
  | (.string bytes, d) => bytes.length + uptoBulk d + 1
  | (_, d) => uptoBulk d + 1
 end
def uptoSmall : (H : Type) → List (DataW H) → Bool := fun _ ds => decide (uptoBulkAll ds ≤ 1048576)
def OpenSpec.upto (s : _root_.Go.ChangeSpec) : _root_.Go.OpenSpec := { _root_.Go.OpenSpec.ofChange s with cond := some uptoSmall }

/-- 'reparteelaw19.ProductMakes', WHERE WHAT IT READS IS OF BULK AT MOST 1048576: true; the input reads as it did. -/
def productMakesUptoRow : OpenClaim := { program := "ytmfijgigfianeaagreat", sum := "c8b455cfee52c335948da896611677fcd89044e148d17b7d34726e1af5e6b88a", func := "repartee/reparteelaw19.ProductMakes", spec := "productMakes", unfollowed := true, recurses := true, plainKeys := false, apart := false, narrowed := true }
def ProductMakesUptoSaid : Prop := productMakesUptoRow.holds Tryz.pinned (OpenSpec.upto productMakesSpec)

/-- 'reparteelaw19.ProductTells', WHERE WHAT IT READS IS OF BULK AT MOST 1048576: true; the input reads as it did. -/
def productTellsUptoRow : OpenClaim := { program := "ytmfijgigfianeaagreat", sum := "c8b455cfee52c335948da896611677fcd89044e148d17b7d34726e1af5e6b88a", func := "repartee/reparteelaw19.ProductTells", spec := "productTells", unfollowed := true, recurses := true, plainKeys := false, apart := false, narrowed := true }
def ProductTellsUptoSaid : Prop := productTellsUptoRow.holds Tryz.pinned (OpenSpec.upto productTellsSpec)

/-- 'reparteelaw19.ProductSmall', WHERE WHAT IT READS IS OF BULK AT MOST 1048576: true; the input reads as it did. -/
def productSmallUptoRow : OpenClaim := { program := "ytmfijgigfianeaagreat", sum := "c8b455cfee52c335948da896611677fcd89044e148d17b7d34726e1af5e6b88a", func := "repartee/reparteelaw19.ProductSmall", spec := "productSmall", unfollowed := true, recurses := true, plainKeys := false, apart := false, narrowed := true }
def ProductSmallUptoSaid : Prop := productSmallUptoRow.holds Tryz.pinned (OpenSpec.upto productSmallSpec)

end Rows
end Go.Proofs.YtmfijgigfianeaaGreat
