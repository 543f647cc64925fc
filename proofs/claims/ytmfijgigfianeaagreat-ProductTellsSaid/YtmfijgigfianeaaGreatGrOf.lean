/- Pairs of states as a map's keys, and what the map of a product's states is good for. product.Of. Plain facts on right automata and where their pairs lead to. product.Of: what the inner loop's round does to memory. As OrdT, with two kinds of loads, each with its own condition: what waits for all loads of a kind need not keep that kind's condition. -/
import Derived.Test.YtmfijgigfianeaaGreatGrBothQ
import Derived.Maps.Own
import Derived.Maps.OwnOps
import Derived.Maps.OwnSet
import Derived.Maps.Views
import Derived.DeepKeys4
import Derived.Test.YtmfijgigfianeaaGreatGrProdS
import Derived.Test.YtmfijgigfianeaaGreatGrRead
import Derived.Test.YtmfijgigfianeaaGreatGrCopy
section
set_option linter.unusedVariables false
set_option linter.unusedSimpArgs false
namespace Go.Proofs
open Go.RowKit Go.Shelf Rp Go.Maps
theorem pk_laidOut : laidOutB Tryz.prog = true := by kernel_rfl
theorem pk_row : (93 : TypeId) < Tryz.prog.types.size := of_decide_eq_true (by kernel_rfl)
theorem pk_wide : (match Tryz.prog.underlying 93 with | some (.array _ _) | some (.struct _) => true | _ => false) = true := by rw [Tryz.underlying93]
theorem pk_at : Tryz.prog.keyTypeAt 2 93 = true := by kernel_rfl
theorem pk_law : WideMaps.KeyLaw Tryz.prog 93 := by
  refine deep_law_laid pk_laidOut (m := 2) (Nat.le_of_ble_eq_true rfl) pk_row pk_at ?_
  rw [Tryz.underlying93]
theorem pk_keyed : Keyed Tryz.prog 93 := Keyed.of_law pk_law
theorem pk_type : Tryz.prog.keyType 93 = true := by kernel_rfl
theorem pk_cells : Tryz.prog.cellsOf 93 = 2 := by kernel_rfl
theorem pk_cells1 : Tryz.prog.cellsOf 3 = 1 := by kernel_rfl
theorem pk_size : ∃ n, Tryz.prog.types.size = n + 2 := ⟨Tryz.prog.types.size - 2, by have : (93 : Nat) < Tryz.prog.types.size := pk_row; omega⟩
abbrev pairV2 (p : Nat × Nat) : Value := .agg #[.int .i64 (p.1 : Int), .int .i64 (p.2 : Int)]
/-- What a pair reads as. -/
def kl (p : Nat × Nat) : Lit := .string (keyBytes [.int .i64 (p.1 : Int), .int .i64 (p.2 : Int)])
theorem pk_key (p : Nat × Nat) (h1 : p.1 ≤ 1000000) (h2 : p.2 ≤ 1000000) : keyOf Tryz.prog 93 (pairV2 p) = some (kl p) := by
  obtain ⟨n, hn⟩ := pk_size
  have w1 : (Lit.int .i64 (p.1 : Int)).wf = true := by simp [Lit.wf, show IntKind.i64.min = -9223372036854775808 from rfl, show IntKind.i64.max = 9223372036854775807 from rfl]; omega
  have w2 : (Lit.int .i64 (p.2 : Int)).wf = true := by simp [Lit.wf, show IntKind.i64.min = -9223372036854775808 from rfl, show IntKind.i64.max = 9223372036854775807 from rfl]; omega
  unfold keyOf kl
  rw [Tryz.underlying93]
  simp only [pk_type, hn]
  simp [Value.formed, Tryz.underlying93, pk_cells, pk_cells1, Program.keyLits, Tryz.underlying3, Value.cells, w1, w2]
def smallP (p : Nat × Nat) : Prop := p.1 ≤ 1000000 ∧ p.2 ≤ 1000000
theorem kl_key {p : Nat × Nat} (h : smallP p) : keyOf Tryz.prog 93 (pairV2 p) = some (kl p) := pk_key p h.1 h.2
theorem kl_inj {p q : Nat × Nat} (hp : smallP p) (hq : smallP q) (h : kl p = kl q) : p = q := by
  have := pk_keyed.inj (kl_key hp) (h ▸ kl_key hq)
  simp only [pairV2, Value.agg.injEq] at this
  simp at this
  exact Prod.ext (Int.natCast_inj.1 this.1) (Int.natCast_inj.1 this.2)
/-- The map holds each pair of the list, with its place. -/
structure MapIs {H : Type} (D : DataW H) (todo : List (Nat × Nat)) : Prop where
  isMap : IsMap D
  has : ∀ p, smallP p → Maps.has D (kl p) = decide (p ∈ todo)
  at_ : ∀ p, smallP p → p ∈ todo → ∀ z, D.atKey (kl p) z = .lit (.int .i64 (todo.idxOf p : Nat))
theorem MapIs.empty {H : Type} : MapIs (.map [] : DataW H) [] := ⟨isMap_empty, fun p _ => by simp [Maps.has], fun p _ h => by simp at h⟩
theorem MapIs.step {H : Type} {D : DataW H} {todo : List (Nat × Nat)} (h : MapIs D todo) {q : Nat × Nat} (hq : smallP q) (hn : q ∉ todo) : MapIs (D.put (kl q) (.lit (.int .i64 (todo.length : Nat)))) (todo ++ [q]) := by
  have hk : WideAt.IsKeyLit (kl q) := pk_keyed.key (kl_key hq)
  refine ⟨h.isMap.put _ _, fun p hp => ?_, fun p hp hm z => ?_⟩
  · by_cases e : p = q
    · subst e; rw [has_put_same h.isMap hk]; simp
    · rw [has_put_other (fun e' => e (kl_inj hp hq e')), h.has p hp]; simp [e]
  · by_cases e : p = q
    · subst e; rw [atKey_put_same h.isMap hk, List.idxOf_append, if_neg hn]; simp
    · rw [atKey_put_other (fun e' => e (kl_inj hp hq e'))]
      have hm' : p ∈ todo := by simpa [e] using hm
      rw [h.at_ p hp hm', List.idxOf_append, if_pos hm']
/-- An entry of a map's literal: as a store. -/
theorem wpList_insert_own {H : Type} {P : Program} (w : World) {ops : Array Oper} {rest : List Oper} {o : Oper} {a : Act} {Q : Exit → Act → World → Prop}
    (hg : o.guard = none) (m x v : Operand) (t : TypeId) (hop : o.op = Op.insert t m x v)
    (k e : TypeId) (K : Keyed P k) (ht : P.underlying t = some (.map k e)) (R : Value → Option (DataW H × List MemPlace)) (b n : Nat) (D : DataW H)
    (hm : a.eval m = .map (some b)) (hown : w.ownsMap P k R b n D) (hn : n < maxLen) (key val : Value) (kl : Lit) (hx : a.eval x = key) (hv : a.eval v = val) (hkey : keyOf P k key = some kl)
    (d : DataW H) (ps : List MemPlace) (hval : R val = some (d, ps))
    (hK : ∀ w', w'.ownsMap P k R b (n + 1) (D.put kl d) → w.grownBy w' (some b) → wpList P ops Q rest (a.put o.dst undef) w') :
    wpList P ops Q (o :: rest) a w := by
  refine wpList_plain hg fun K' hK' => ?_
  obtain ⟨w', hrun, r1, r2⟩ := hown.update K ht hn hkey hval
  unfold Oper.wp
  simp [execOp, hop, hm, hx, hv, hrun, Result.andThen]
  exact hK' _ _ (hK w' r1 r2)
end Go.Proofs
end

section
set_option linter.unusedVariables false
set_option linter.unusedSimpArgs false
namespace Go.Proofs
open Go.RowKit Go.Shelf Rp Go.Maps
attribute [local go_sem] Oper.semAt_some
theorem calls_name {P : Program} {f : Nat} {args : Array Value} {w : World} {Q : Ending → World → Prop} (h : ∀ W, w = W → Calls P f args W Q) : Calls P f args w Q := h w rfl
theorem set3 (wr : World) (b : Nat) (t : TypeId) (z0 z1 z2 x0 x1 x2 : Value) (h0 : wr.cell? ⟨b, 0, none⟩ = some z0) (h1 : wr.cell? ⟨b, 1, none⟩ = some z1) (h2 : wr.cell? ⟨b, 2, none⟩ = some z2) :
    (((wr.setCell ⟨b, 0, none⟩ x0).setCell ⟨b, 1, none⟩ x1).setCell ⟨b, 2, none⟩ x2).cell? ⟨b, 0, none⟩ = some x0 ∧ (((wr.setCell ⟨b, 0, none⟩ x0).setCell ⟨b, 1, none⟩ x1).setCell ⟨b, 2, none⟩ x2).cell? ⟨b, 1, none⟩ = some x1 ∧ (((wr.setCell ⟨b, 0, none⟩ x0).setCell ⟨b, 1, none⟩ x1).setCell ⟨b, 2, none⟩ x2).cell? ⟨b, 2, none⟩ = some x2 ∧
    (∀ B, B ≤ b → Below B wr (((wr.setCell ⟨b, 0, none⟩ x0).setCell ⟨b, 1, none⟩ x1).setCell ⟨b, 2, none⟩ x2)) ∧ (∀ j, j ≠ b → (((wr.setCell ⟨b, 0, none⟩ x0).setCell ⟨b, 1, none⟩ x1).setCell ⟨b, 2, none⟩ x2).heap[j]? = wr.heap[j]?) := by
  refine ⟨by go_simp, by go_simp, by go_simp, fun B hB => (((Below.refl B wr).setCell (p := ⟨b, 0, none⟩) hB x0).setCell (p := ⟨b, 1, none⟩) hB x1).setCell (p := ⟨b, 2, none⟩) hB x2, fun j hj => ?_⟩
  iterate 3 rw [Below.heap_setCell _ _ _ j (by simpa using hj)]
theorem run_equalIn_fn (d fn : Nat) (W : World) : (Op.equalIn (d + 1) 87 (.func (.func fn) #[] #[]) .nilFunc).run Tryz.prog W = .ok false W := by
  simp [Op.equalIn, run_underlying Tryz.underlying87]
theorem run_equalIn_nilfn (d : Nat) (W : World) : (Op.equalIn (d + 1) 87 .nilFunc .nilFunc).run Tryz.prog W = .ok true W := by
  simp [Op.equalIn, run_underlying Tryz.underlying87]
theorem run_eql_fn (fn : Nat) (W : World) : (binOp .eql 87 (.func (.func fn) #[] #[]) .nilFunc).run Tryz.prog W = .ok (.bool false) W := by
  simp only [binOp]
  simp [Op.equal, Op.maxDepth, run_equalIn_fn 9999 fn W]
theorem run_eql_nilfn (W : World) : (binOp .eql 87 .nilFunc .nilFunc).run Tryz.prog W = .ok (.bool true) W := by
  simp only [binOp]
  simp [Op.equal, Op.maxDepth, run_equalIn_nilfn 9999 W]
def errB (a b : Dfa) (op : Nat) (fuel : Int) : Option Int :=
  if (!rightB a || !rightB b) = true then some 182 else if op = 0 ∨ 4 < op then some 190 else if fuel < 0 ∨ fuel > 4000 then some 2 else if fuel = 0 then some 181 else none
def noDfa : Dfa := ⟨[], [], []⟩
def nilDA : DA := ⟨none, 0, none, 0, none, 0⟩
theorem noDfaO (w : World) (base : Nat) : DfaO w base nilDA noDfa := ⟨OwnS.nil _ _ _ _ _, OwnS.nil _ _ _ _ _, OwnS.nil _ _ _ _ _⟩
/-- What is asked of an automaton that is read. -/
structure DfaQ (w : World) (F : Nat → Prop) (A1 : Option Addr) (k1 : Nat) (A2 : Option Addr) (k2 : Nat) (A3 : Option Addr) (k3 : Nat) (d : Dfa) : Prop where
  s1 : Kset.S w F A1 d.cls
  s2 : Kints.S w F A2 d.next
  s3 : Kints.S w F A3 d.marks
  l1 : d.cls.length ≤ k1
  m1 : k1 ≤ 9223372036854775807
theorem DfaQ.below {w w' : World} {F : Nat → Prop} {A1 A2 A3 : Option Addr} {k1 k2 k3 : Nat} {d : Dfa} (h : DfaQ w F A1 k1 A2 k2 A3 k3 d) (hb : Below w.heap.size w w') : DfaQ w' F A1 k1 A2 k2 A3 k3 d :=
  ⟨h.s1.step fun b _ hl => hb.block b hl, h.s2.step fun b _ hl => hb.block b hl, h.s3.step fun b _ hl => hb.block b hl, h.l1, h.m1⟩
theorem DfaQ.right {w : World} {F : Nat → Prop} {A1 A2 A3 : Option Addr} {k1 k2 k3 : Nat} {d : Dfa} (h : DfaQ w F A1 k1 A2 k2 A3 k3 d) :
    Calls Tryz.prog 47 #[.agg #[.slice A1 d.cls.length k1, .slice A2 d.next.length k2, .slice A3 d.marks.length k3]] w fun e w' => e = .returned (.bool (rightB d)) ∧ Below w.heap.size w w' :=
  c_right0 A1 A2 A3 k1 k2 k3 d F w h.s1 h.s2 h.s3 h.l1 h.m1
set_option maxRecDepth 100000 in
set_option maxHeartbeats 1600000 in
/-- What is refused. -/
theorem c_of_wrong (A1 A2 A3 B1 B2 B3 : Option Addr) (k1 k2 k3 m1 m2 m3 : Nat) (a b : Dfa) (op : Nat) (fuel : Int) (F : Nat → Prop) (w : World) (hop : op < 256)
    (ha : DfaQ w F A1 k1 A2 k2 A3 k3 a) (hb : DfaQ w F B1 m1 B2 m2 B3 m3 b) (n : Int) (hw : errB a b op fuel = some n) :
    Calls Tryz.prog 19 #[.agg #[.slice A1 a.cls.length k1, .slice A2 a.next.length k2, .slice A3 a.marks.length k3], .agg #[.slice B1 b.cls.length m1, .slice B2 b.next.length m2, .slice B3 b.marks.length m3], .int .u8 (op : Int), .int .i64 fuel] w
      fun e w' => e = .returned (.tuple #[dfaV nilDA noDfa, .int .i64 n]) ∧ Below w.heap.size w w' := by
  have hra := fun W' (hW' : Below w.heap.size w W') => (ha.below hW').right
  have hrb := fun W' (hW' : Below w.heap.size w W') => (hb.below hW').right
  have hsy := fun W' => c_says op W' hop
  generalize hsf : sayF op = sf at hsy
  have HSF := Lib.hid hsf
  clear hsf
  go_enter Tryz.func19, Tryz.ntmps19
  go_wp2_with (go_at_call 46; refine (hsy _).mono ?_; rintro e w1 ⟨rfl, rfl⟩)
  refine calls_name fun W0 hW0 => ?_
  have q0 : W0.heap[w.heap.size]? = some (.cells #[.slice A1 a.cls.length k1, .slice A2 a.next.length k2, .slice A3 a.marks.length k3] 25 (0, 0)) := by
    rw [← hW0]; exact (Below.heap_alloc _ _ _ (by simp; omega)).trans ((Below.heap_alloc _ _ _ (by simp)).trans (World.alloc_heap_new w _))
  have q1 : W0.heap[w.heap.size + 1]? = some (.cells #[.slice B1 b.cls.length m1, .slice B2 b.next.length m2, .slice B3 b.marks.length m3] 25 (0, 0)) := by
    rw [← hW0]; refine (Below.heap_alloc _ _ _ (by simp)).trans ?_
    have := World.alloc_heap_new (w.alloc (.cells #[.slice A1 a.cls.length k1, .slice A2 a.next.length k2, .slice A3 a.marks.length k3] 25)) (.cells #[.slice B1 b.cls.length m1, .slice B2 b.next.length m2, .slice B3 b.marks.length m3] 25)
    simpa using this
  have q2 : W0.heap[w.heap.size + 1 + 1]? = some (.cells #[.slice none 0 0, .slice none 0 0, .slice none 0 0] 25 (0, 0)) := by
    rw [← hW0]
    have := World.alloc_heap_new ((w.alloc (.cells #[.slice A1 a.cls.length k1, .slice A2 a.next.length k2, .slice A3 a.marks.length k3] 25)).alloc (.cells #[.slice B1 b.cls.length m1, .slice B2 b.next.length m2, .slice B3 b.marks.length m3] 25)) (.cells #[.slice none 0 0, .slice none 0 0, .slice none 0 0] 25)
    simpa using this
  have hE0 : Ext w W0 := by rw [← hW0]; exact (((Ext.refl _).alloc _).alloc _).alloc _
  have hz0 : W0.heap.size = w.heap.size + 3 := by rw [← hW0]; simp
  clear hW0
  have hcA : ∀ W', Below W0.heap.size W0 W' → W'.cell? ⟨w.heap.size + 1, 0, none⟩ = some (.slice B1 b.cls.length m1) ∧ W'.cell? ⟨w.heap.size + 1, 1, none⟩ = some (.slice B2 b.next.length m2) ∧ W'.cell? ⟨w.heap.size + 1, 2, none⟩ = some (.slice B3 b.marks.length m3) ∧
      W'.cell? ⟨w.heap.size + 1 + 1, 0, none⟩ = some (.slice none 0 0) ∧ W'.cell? ⟨w.heap.size + 1 + 1, 1, none⟩ = some (.slice none 0 0) ∧ W'.cell? ⟨w.heap.size + 1 + 1, 2, none⟩ = some (.slice none 0 0) ∧ (∀ j, W'.frozen? ⟨w.heap.size + 1 + 1, j, none⟩ = false) := fun W' hW' => by
    have e1 := (hW'.block _ (Array.getElem?_eq_some_iff.1 q1).1).trans q1
    have e2 := (hW'.block _ (Array.getElem?_eq_some_iff.1 q2).1).trans q2
    exact ⟨cell_of_row W' _ 0 _ _ _ e1, cell_of_row W' _ 1 _ _ _ e1, cell_of_row W' _ 2 _ _ _ e1, cell_of_row W' _ 0 _ _ _ e2, cell_of_row W' _ 1 _ _ _ e2, cell_of_row W' _ 2 _ _ _ e2, fun j => frozen_of_row W' _ j _ _ e2⟩
  have hcall := hra W0 hE0.below
  cases hA : rightB a with
  | false =>
    obtain rfl : 182 = n := by simpa [errB, hA] using hw
    rw [hA] at hcall
    refine hcall.mono ?_
    rintro e w2 ⟨rfl, hB2⟩
    obtain ⟨_, _, _, g3, g4, g5, g6⟩ := hcA w2 hB2
    have hBw := hE0.below.trans (hB2.mono hE0.size)
    clear hcall hra hrb hcA q0 q1 q2 hw
    go_wp2
    obtain ⟨u0, u1, u2, hBF, _⟩ := set3 w2 (w.heap.size + 1 + 1) 25 _ _ _ (.slice none 0 0) (.slice none 0 0) (.slice none 0 0) g3 g4 g5
    refine bodyPost_ret (v := .tuple #[dfaV nilDA noDfa, .int .i64 182]) (by simp [results, Tryz.results19, go_sem, u0, u1, u2, dfaV, dfaC, nilDA, noDfa]) rfl ⟨rfl, hBw.trans (hBF _ (by omega))⟩
  | true =>
    rw [hA] at hcall
    have hcall2 := fun W' h => (hrb W' h)
    refine hcall.mono ?_
    rintro e w2 ⟨rfl, hB2⟩
    obtain ⟨f3, f4, f5, g3, g4, g5, g6⟩ := hcA w2 hB2
    have hBw := hE0.below.trans (hB2.mono hE0.size)
    have hcall3 := hcall2 w2 hBw
    clear hcall hra hrb q0 q1 q2 hcall2
    cases hB : rightB b with
    | false =>
      obtain rfl : 182 = n := by simpa [errB, hA, hB] using hw
      rw [hB] at hcall3
      clear hw
      go_wp2_with (go_at_call 47; refine hcall3.mono ?_; rintro e w3 ⟨rfl, hB3⟩; obtain ⟨_, _, _, i3, i4, i5, i6⟩ := hcA w3 (hB2.trans (hB3.mono hB2.size)))
      have hBw3 := hBw.trans (hB3.mono hBw.size)
      obtain ⟨u0, u1, u2, hBF, _⟩ := set3 w3 (w.heap.size + 1 + 1) 25 _ _ _ (.slice none 0 0) (.slice none 0 0) (.slice none 0 0) i3 i4 i5
      refine bodyPost_ret (v := .tuple #[dfaV nilDA noDfa, .int .i64 182]) (by simp [results, Tryz.results19, go_sem, u0, u1, u2, dfaV, dfaC, nilDA, noDfa]) rfl ⟨rfl, hBw3.trans (hBF _ (by omega))⟩
    | true =>
      rw [hB] at hcall3
      by_cases hop2 : op = 0 ∨ 4 < op
      · obtain rfl : 190 = n := by simpa [errB, hA, hB, hop2] using hw
        obtain rfl : .nilFunc = sf := by
          rw [← HSF.out]; unfold sayF; split <;> first | rfl | omega
        clear hw
        have hfn := run_eql_nilfn
        go_wp2_with (go_at_call 47; refine hcall3.mono ?_; rintro e w3 ⟨rfl, hB3⟩; obtain ⟨_, _, _, i3, i4, i5, i6⟩ := hcA w3 (hB2.trans (hB3.mono hB2.size)))
        have hBw3 := hBw.trans (hB3.mono hBw.size)
        obtain ⟨u0, u1, u2, hBF, _⟩ := set3 w3 (w.heap.size + 1 + 1) 25 _ _ _ (.slice none 0 0) (.slice none 0 0) (.slice none 0 0) i3 i4 i5
        refine bodyPost_ret (v := .tuple #[dfaV nilDA noDfa, .int .i64 190]) (by simp [results, Tryz.results19, go_sem, u0, u1, u2, dfaV, dfaC, nilDA, noDfa]) rfl ⟨rfl, hBw3.trans (hBF _ (by omega))⟩
      · obtain ⟨fn, rfl⟩ : ∃ fn, .func (.func fn) #[] #[] = sf := by
          rw [← HSF.out]
          have : op = 1 ∨ op = 2 ∨ op = 3 ∨ op = 4 := by omega
          rcases this with rfl | rfl | rfl | rfl <;> exact ⟨_, rfl⟩
        have hfn := run_eql_fn fn
        by_cases hf : fuel < 0
        · obtain rfl : 2 = n := by simpa [errB, hA, hB, hop2, hf] using hw
          clear hw
          go_wp2_with (go_at_call 47; refine hcall3.mono ?_; rintro e w3 ⟨rfl, hB3⟩; obtain ⟨_, _, _, i3, i4, i5, i6⟩ := hcA w3 (hB2.trans (hB3.mono hB2.size)))
          have hBw3 := hBw.trans (hB3.mono hBw.size)
          obtain ⟨u0, u1, u2, hBF, _⟩ := set3 w3 (w.heap.size + 1 + 1) 25 _ _ _ (.slice none 0 0) (.slice none 0 0) (.slice none 0 0) i3 i4 i5
          refine bodyPost_ret (v := .tuple #[dfaV nilDA noDfa, .int .i64 2]) (by simp [results, Tryz.results19, go_sem, u0, u1, u2, dfaV, dfaC, nilDA, noDfa]) rfl ⟨rfl, hBw3.trans (hBF _ (by omega))⟩
        · by_cases hf2 : fuel > 4000
          · obtain rfl : 2 = n := by simpa [errB, hA, hB, hop2, hf, hf2] using hw
            clear hw
            go_wp2_with (go_at_call 47; refine hcall3.mono ?_; rintro e w3 ⟨rfl, hB3⟩; obtain ⟨_, _, _, i3, i4, i5, i6⟩ := hcA w3 (hB2.trans (hB3.mono hB2.size)))
            have hBw3 := hBw.trans (hB3.mono hBw.size)
            obtain ⟨u0, u1, u2, hBF, _⟩ := set3 w3 (w.heap.size + 1 + 1) 25 _ _ _ (.slice none 0 0) (.slice none 0 0) (.slice none 0 0) i3 i4 i5
            refine bodyPost_ret (v := .tuple #[dfaV nilDA noDfa, .int .i64 2]) (by simp [results, Tryz.results19, go_sem, u0, u1, u2, dfaV, dfaC, nilDA, noDfa]) rfl ⟨rfl, hBw3.trans (hBF _ (by omega))⟩
          · by_cases hf3 : fuel = 0
            · obtain rfl : 181 = n := by simpa [errB, hA, hB, hop2, hf, hf2, hf3] using hw
              subst hf3
              clear hw
              go_wp2_with (go_at_call 47; refine hcall3.mono ?_; rintro e w3 ⟨rfl, hB3⟩; obtain ⟨_, _, _, i3, i4, i5, i6⟩ := hcA w3 (hB2.trans (hB3.mono hB2.size)))
              have hBw3 := hBw.trans (hB3.mono hBw.size)
              obtain ⟨u0, u1, u2, hBF, _⟩ := set3 w3 (w.heap.size + 1 + 1) 25 _ _ _ (.slice none 0 0) (.slice none 0 0) (.slice none 0 0) i3 i4 i5
              refine bodyPost_ret (v := .tuple #[dfaV nilDA noDfa, .int .i64 181]) (by simp [results, Tryz.results19, go_sem, u0, u1, u2, dfaV, dfaC, nilDA, noDfa]) rfl ⟨rfl, hBw3.trans (hBF _ (by omega))⟩
            · exfalso
              simp [errB, hA, hB, hop2, hf, hf2, hf3] at hw
end Go.Proofs
end

section
set_option linter.unusedVariables false
set_option linter.unusedSimpArgs false
namespace Rp
open Go.Proofs
theorem pairsTo_fst (l : List BSet) (k : Nat) : ∀ x ∈ pairsTo l k, x.1 < k := by
  intro x hx
  unfold pairsTo at hx
  obtain ⟨i, hi, hx⟩ := List.mem_flatMap.1 hx
  obtain ⟨c, _, rfl⟩ := List.mem_map.1 hx
  exact List.mem_range.1 hi
theorem tabF_lt_len (l : List BSet) (c : Nat) (h0 : 0 < l.length) (h1 : l.length ≤ 256) : tabF (pairsOf l) c < l.length := by
  have hm : ∀ x ∈ pairsOf l, x.1 < l.length := pairsTo_fst l l.length
  unfold tabF
  have key : ∀ (ps : List (Nat × UInt8)) (a : Nat), (∀ x ∈ ps, x.1 < l.length) → a < l.length → ps.foldl (fun acc x => if x.2.toNat = c then x.1 % 256 else acc) a < l.length := by
    intro ps
    induction ps with
    | nil => intro a _ h; exact h
    | cons x ps ih =>
      intro a hx h
      rw [List.foldl_cons]
      refine ih _ (fun y hy => hx y (List.mem_cons_of_mem _ hy)) ?_
      split
      · have := hx x List.mem_cons_self; omega
      · exact h
  exact key _ 0 hm h0
theorem right_parts {d : Dfa} (h : rightB d = true) : partsB d.cls = d.cls := by
  simp only [rightB, Bool.and_eq_true, decide_eq_true_eq] at h; exact h.1.2
theorem right_len {d : Dfa} (h : rightB d = true) : 1 ≤ d.next.length ∧ d.next.length ≤ 4000 ∧ d.marks.length = d.next.length := by
  simp only [rightB, Bool.and_eq_true, decide_eq_true_eq] at h; exact ⟨h.1.1.1.1, h.1.1.1.2, h.1.1.2⟩
theorem right_state {d : Dfa} (h : rightB d = true) {s : Nat} (hs : s < d.next.length) : stateB d s = true := by
  simp only [rightB, Bool.and_eq_true] at h
  exact List.all_eq_true.1 h.2 s (List.mem_range.2 hs)
theorem right_row {d : Dfa} (h : rightB d = true) {s : Nat} (hs : s < d.next.length) : d.next[s].length = d.cls.length ∧ ∀ t ∈ d.next[s], 0 ≤ t ∧ t < (d.next.length : Int) := by
  have h1 := right_state h hs
  simp only [stateB, Bool.and_eq_true, decide_eq_true_eq, List.getD_eq_getElem?_getD, List.getElem?_eq_getElem hs, Option.getD_some] at h1
  refine ⟨h1.1.1, fun t ht => ?_⟩
  have h2 := h1.1.2
  simp only [Bool.not_eq_true', List.any_eq_false] at h2
  have h3 := h2 t ht
  simp [outB] at h3
  omega
theorem byN_lt {d : Dfa} (h : rightB d = true) (s : BSet) : byN d s < d.cls.length := by
  unfold byN
  have h0 := parts_pos d.cls
  have h1 := parts_le d.cls
  have h2 := tabF_lt_len (partsB d.cls) (firstB s).1.toNat h0 h1
  rwa [right_parts h] at h2 ⊢
/-- Where a pair leads to: what the program looks up on its way. -/
theorem nxt_look {d : Dfa} (h : rightB d = true) {p : Nat} (hp : p < d.next.length) (s : BSet) :
    ∃ y : Nat, d.next[p]? = some d.next[p] ∧ d.next[p][byN d s]? = some (y : Int) ∧ y = ((d.next.getD p []).getD (byN d s) 0).toNat ∧ y < d.next.length := by
  obtain ⟨hl, hr⟩ := right_row h hp
  have hb : byN d s < d.next[p].length := by rw [hl]; exact byN_lt h s
  have hm := hr _ (List.getElem_mem hb)
  refine ⟨(d.next[p][byN d s]).toNat, List.getElem?_eq_getElem hp, ?_, ?_, by omega⟩
  · rw [List.getElem?_eq_getElem hb]; congr 1; omega
  · simp [List.getD_eq_getElem?_getD, List.getElem?_eq_getElem hp, List.getElem?_eq_getElem hb]
end Rp
end

section
set_option linter.unusedVariables false
set_option linter.unusedSimpArgs false
namespace Rp
open Go Go.RowKit Go.Proofs
theorem Kp.mov_after {S : Nat → Prop} {a w w' : World} {r r' : Option Nat} (h : Kp S a w) (hm : Mov w w' r r') (hr : ∀ k, r = some k → S k ∨ a.heap.size ≤ k) : Kp S a w' :=
  ⟨hm.os.trans h.os, hm.tape.trans h.tape, hm.output.trans h.output, Nat.le_trans h.size hm.size, fun k hk hn => (hm.block k (Nat.lt_of_lt_of_le hk h.size) fun e => by
    rcases hr k e.symm with hs | hs
    · exact hn hs
    · omega).trans (h.block k hk hn)⟩
theorem flatPp : Flat Kpp := fun _ _ _ _ _ _ h => h
theorem OwnS.reF {α : Type} {d : Kd α} (hd : Flat d) {e : TypeId} {w : World} {base : Nat} {F G : Nat → Prop} {v : Value} {xs : List α} (h : OwnS d e w base F v xs) (hG : ∀ k, v.ownBlock = some k → G k) : OwnS d e w base G v xs :=
  ⟨hG, h.2.imp fun inner hi => ⟨hi.1, hi.2.imp fun q c _ h => hd _ _ _ _ _ _ h⟩⟩
theorem OwnS.readS {α : Type} {d : Kd α} {e : TypeId} {w : World} {base n c : Nat} {F : Nat → Prop} {A : Option Addr} {xs : List α} (h : OwnS d e w base F (.slice A n c) xs) : d.S w F A xs := by
  obtain ⟨A', c', e', _, _, hs⟩ := h.reads
  obtain ⟨rfl, _, _⟩ := slice_inj e'
  exact hs
/-- A row of one's own behind an append to another one. -/
theorem OwnS.away {α : Type} {d : Kd α} {e : TypeId} {W w1 : World} {base : Nat} {F : Nat → Prop} {u : Value} {ys : List α} {r r' : Option Nat} (h : OwnS d e W base F u ys) (hM : Mov W w1 r r') (hF : ∀ k, F k → some k ≠ r) : OwnS d e w1 base (fun k => F k ∧ some k ≠ r') u ys := by
  refine (h.bound.step (w1 := w1) fun b hb hl => hM.block b hl (hF b hb.1)).mono fun k hk => ⟨hk.1, ?_⟩
  rcases hM.at_ with e | ⟨g, e, hg⟩
  · rw [e]; exact hF k hk.1
  · rw [e]; intro e'; injection e' with e'; omega
theorem Mov.grown {w w' : World} {r r' : Option Nat} (h : Mov w w' r r') : w.grownBy w' r := ⟨h.os, h.tape, h.output, h.size, h.block⟩
end Rp
namespace Go.Proofs
open Go.RowKit Go.Shelf Rp Go.Maps
theorem info_pair : (Tryz.prog.info? 93).map (fun i => (i.zero, i.size, i.bytes)) = some (some (.agg #[.int .i64 0, .int .i64 0]), 2, 16) := by kernel_rfl
theorem zero_int : ∀ w : World, (zeroValue 3).run Tryz.prog w = .ok (.int .i64 0) w := fun w => by kernel_rfl
structure InP (bm w5s bt : Nat) (W7 : World) (n : Nat) (D : DataW Unit) (t2 : List PP) (X : List Int) (vt vX : Value) (w : World) : Prop where
  mp : w.ownsMap Tryz.prog 93 (plainElem Tryz.prog 3) bm n D
  kp : Kp (fun k => k = bm ∨ k = bt) W7 w
  ot : OwnS Kpp 93 w w5s (fun k => w5s ≤ k) vt t2
  vo : vt.ownBlock = some bt ∨ ∃ g, vt.ownBlock = some g ∧ W7.heap.size ≤ g
  ox : OwnS Kint 3 w W7.heap.size (fun b => W7.heap.size ≤ b ∧ some b ≠ vt.ownBlock) vX X
section
variable {bm w5s bt n n' : Nat} {W7 w w1 : World} {D D' : DataW Unit} {t2 t3 : List PP} {X Y : List Int} {vt vX vt' vX' : Value}
theorem InP.ext (h : InP bm w5s bt W7 n D t2 X vt vX w) (hb : Below w.heap.size w w1) : InP bm w5s bt W7 n D t2 X vt vX w1 :=
  ⟨h.mp.kept (row := none) ⟨hb.os, hb.tape, hb.output, hb.size, fun k hk _ => hb.block k hk⟩ (by simp), h.kp.trans (.of_below hb), h.ot.step fun b _ hl => hb.block b hl, h.vo, h.ox.step fun b _ hl => hb.block b hl⟩
theorem InP.vne (h : InP bm w5s bt W7 n D t2 X vt vX w) (h1 : bm < w5s) (h2 : w5s ≤ W7.heap.size) (h3 : w5s ≤ bt) : vt.ownBlock ≠ some bm ∧ vX.ownBlock ≠ some bm ∧ (vX.ownBlock = none ∨ vX.ownBlock ≠ vt.ownBlock) := by
  refine ⟨fun e => ?_, fun e => ?_, ?_⟩
  · rcases h.vo with e' | ⟨g, e', hg⟩
    · rw [e'] at e; injection e with e; omega
    · rw [e'] at e; injection e with e; omega
  · have := (h.ox.1 bm e).1; omega
  · cases hv : vX.ownBlock with
    | none => exact .inl rfl
    | some k => exact .inr (h.ox.1 k hv).2
theorem InP.put (h : InP bm w5s bt W7 n D t2 X vt vX w) (h1 : bm < w5s) (h2 : w5s ≤ W7.heap.size) (h3 : w5s ≤ bt) (hg : w.grownBy w1 (some bm)) (hm : w1.ownsMap Tryz.prog 93 (plainElem Tryz.prog 3) bm n' D') : InP bm w5s bt W7 n' D' t2 X vt vX w1 := by
  obtain ⟨a1, a2, a3⟩ := h.vne h1 h2 h3
  have hM : Mov w w1 (some bm) (some bm) := .of_grown hg (.inl rfl)
  exact ⟨hm, h.kp.trans (.of_grown hg (.inl rfl)), h.ot.mov flatPp hM (.inr a1), h.vo, h.ox.mov flatInt hM (.inr a2)⟩
theorem InP.push (h : InP bm w5s bt W7 n D t2 X vt vX w) (h1 : bm < w5s) (h2 : w5s ≤ W7.heap.size) (h3 : w5s ≤ bt) (hO : OwnS Kpp 93 w1 w5s (fun k => w5s ≤ k) vt' t3) (hM : Mov w w1 vt.ownBlock vt'.ownBlock) : InP bm w5s bt W7 n D t3 X vt' vX w1 := by
  obtain ⟨a1, a2, a3⟩ := h.vne h1 h2 h3
  refine ⟨h.mp.kept hM.grown (Ne.symm a1), h.kp.mov_after hM fun k hk => ?_, hO, ?_, (h.ox.mov flatInt hM a3).reF flatInt fun k hk => ⟨(h.ox.1 k hk).1, fun e => ?_⟩⟩
  · rcases h.vo with e | ⟨g, e, hg⟩
    · rw [e] at hk; injection hk with hk; exact .inl (.inr hk.symm)
    · rw [e] at hk; injection hk with hk; exact .inr (by omega)
  · rcases hM.at_ with e | ⟨g, e, hg⟩
    · rw [e]; exact h.vo
    · exact .inr ⟨g, e, Nat.le_trans h.kp.size hg⟩
  · rcases hM.at_ with e' | ⟨g, e', hg⟩
    · rw [e'] at e; exact (h.ox.1 k hk).2 e
    · rw [e'] at e; injection e with e
      have := (h.ox.lt k hk).2; omega
theorem InP.add (h : InP bm w5s bt W7 n D t2 X vt vX w) (h1 : bm < w5s) (h2 : w5s ≤ W7.heap.size) (h3 : w5s ≤ bt) (hO : OwnS Kint 3 w1 W7.heap.size (fun b => W7.heap.size ≤ b ∧ some b ≠ vt.ownBlock) vX' Y) (hM : Mov w w1 vX.ownBlock vX'.ownBlock) : InP bm w5s bt W7 n D t2 Y vt vX' w1 := by
  obtain ⟨a1, a2, a3⟩ := h.vne h1 h2 h3
  exact ⟨h.mp.kept hM.grown (Ne.symm a2), h.kp.mov_after hM fun k hk => .inr (h.ox.1 k hk).1, h.ot.mov flatPp hM (apart_flip a3), h.vo, hO⟩
theorem InP.fresh (h : InP bm w5s bt W7 n D t2 X vt vX w) : ∀ k, w.heap.size ≤ k → W7.heap.size ≤ k ∧ some k ≠ vt.ownBlock := fun k hk => ⟨Nat.le_trans h.kp.size hk, fun e => by
  have := (h.ot.lt k e.symm).2; omega⟩
end
end Go.Proofs
namespace Rp
open Go Go.RowKit
theorem cells10 {w : World} {b : Nat} {z0 z1 z2 z3 z4 z5 z6 z7 z8 z9 : Value} {t : TypeId} (h : w.heap[b]? = some (.cells #[z0, z1, z2, z3, z4, z5, z6, z7, z8, z9] t (0, 0))) :
    w.cell? ⟨b, 0, none⟩ = some z0 ∧ w.cell? ⟨b, 1, none⟩ = some z1 ∧ w.cell? ⟨b, 2, none⟩ = some z2 ∧ w.cell? ⟨b, 3, none⟩ = some z3 ∧ w.cell? ⟨b, 4, none⟩ = some z4 ∧ w.cell? ⟨b, 5, none⟩ = some z5 ∧ w.cell? ⟨b, 6, none⟩ = some z6 ∧ w.cell? ⟨b, 7, none⟩ = some z7 ∧ w.cell? ⟨b, 8, none⟩ = some z8 ∧ w.cell? ⟨b, 9, none⟩ = some z9 :=
  ⟨cell_of_row w _ 0 _ _ _ h, cell_of_row w _ 1 _ _ _ h, cell_of_row w _ 2 _ _ _ h, cell_of_row w _ 3 _ _ _ h, cell_of_row w _ 4 _ _ _ h, cell_of_row w _ 5 _ _ _ h, cell_of_row w _ 6 _ _ _ h, cell_of_row w _ 7 _ _ _ h, cell_of_row w _ 8 _ _ _ h, cell_of_row w _ 9 _ _ _ h⟩
theorem cells3 {w : World} {b : Nat} {z0 z1 z2 : Value} {t : TypeId} (h : w.heap[b]? = some (.cells #[z0, z1, z2] t (0, 0))) :
    w.cell? ⟨b, 0, none⟩ = some z0 ∧ w.cell? ⟨b, 1, none⟩ = some z1 ∧ w.cell? ⟨b, 2, none⟩ = some z2 := ⟨cell_of_row w _ 0 _ _ _ h, cell_of_row w _ 1 _ _ _ h, cell_of_row w _ 2 _ _ _ h⟩
theorem cells2 {w : World} {b : Nat} {z0 z1 : Value} {t : TypeId} (h : w.heap[b]? = some (.cells #[z0, z1] t (0, 0))) :
    w.cell? ⟨b, 0, none⟩ = some z0 ∧ w.cell? ⟨b, 1, none⟩ = some z1 := ⟨cell_of_row w _ 0 _ _ _ h, cell_of_row w _ 1 _ _ _ h⟩
/-- What the loads of the last region of product.Of's round ask. -/
def SOf (bd bx bp : Nat) (od ox op : Obj) : Bool → World → Prop
  | false, w => w.heap[bd]? = some od
  | true, w => w.heap[bx]? = some ox ∧ w.heap[bp]? = some op
theorem SOf.mov {bd bx bp : Nat} {od ox op : Obj} {W W' : World} {r r' : Option Nat} (hM : Mov W W' r r') (hr : ∀ q, r = some q → q ≠ bd ∧ q ≠ bx ∧ q ≠ bp) : ∀ b, SOf bd bx bp od ox op b W → SOf bd bx bp od ox op b W'
  | false, h => hM.heap h fun e => (hr _ e.symm).1 rfl
  | true, h => ⟨hM.heap h.1 fun e => (hr _ e.symm).2.1 rfl, hM.heap h.2 fun e => (hr _ e.symm).2.2 rfl⟩
end Rp
namespace Go.Proofs
open Go.RowKit Go.Shelf Rp Go.Maps
theorem c_marksOp (op fn : Nat) (h4 : op = 1 ∨ op = 2 ∨ op = 3 ∨ op = 4) (hs : sayF op = .func (.func fn) #[] #[]) (A3 B3 : Option Addr) (n3 k3 : Nat) (x0 x1 x3 x4 x6 x7 x8 : Value) (am bm : List (List Int)) (r1 r2 : List Int) (pa pb : Nat) (F : Nat → Prop) (w : World)
    (hsa : Kints.S w F A3 am) (hsb : Kints.S w F B3 bm) (hpa : am[pa]? = some r1) (hpb : bm[pb]? = some r2) :
    Calls Tryz.prog 50 #[.agg #[x0, x1, .slice A3 am.length n3, x3, x4, .slice B3 bm.length k3, x6, x7, x8, .func (.func fn) #[] #[]], .agg #[.int .i64 (pa : Int), .int .i64 (pb : Int)]] w
      fun e w' => ∃ v, e = .returned v ∧ OwnS Kint 3 w' w.heap.size (fun b => w.heap.size ≤ b) v (if sayB op (decide (0 < r1.length)) (decide (0 < r2.length)) then [0] else []) ∧ Ext w w' := by
  rcases h4 with rfl | rfl | rfl | rfl
  · have e : 61 = fn := by simpa [sayF] using hs
    subst e; exact c_marks1 A3 B3 n3 k3 x0 x1 x3 x4 x6 x7 x8 am bm r1 r2 pa pb F w hsa hsb hpa hpb
  · have e : 62 = fn := by simpa [sayF] using hs
    subst e; exact c_marks2 A3 B3 n3 k3 x0 x1 x3 x4 x6 x7 x8 am bm r1 r2 pa pb F w hsa hsb hpa hpb
  · have e : 63 = fn := by simpa [sayF] using hs
    subst e; exact c_marks3 A3 B3 n3 k3 x0 x1 x3 x4 x6 x7 x8 am bm r1 r2 pa pb F w hsa hsb hpa hpb
  · have e : 64 = fn := by simpa [sayF] using hs
    subst e; exact c_marks4 A3 B3 n3 k3 x0 x1 x3 x4 x6 x7 x8 am bm r1 r2 pa pb F w hsa hsb hpa hpb
end Go.Proofs
namespace Rp
open Go.Proofs
theorem inAll_old {fuel : Nat} {q : PP} {r : List PP} {t2 : List PP} {X : List Int} (h : q ∈ t2) : inAll fuel (q :: r) (t2, X) = inAll fuel r (t2, X ++ [(t2.idxOf q : Int)]) := by
  have : ¬ t2.idxOf q = t2.length := by have := List.idxOf_lt_length_of_mem h; omega
  simp only [inAll, inStep, if_neg this]
theorem inAll_new {fuel : Nat} {q : PP} {r : List PP} {t2 : List PP} {X : List Int} (h : q ∉ t2) (hl : ¬ t2.length = fuel) : inAll fuel (q :: r) (t2, X) = inAll fuel r (t2 ++ [q], X ++ [(t2.length : Int)]) := by
  have : t2.idxOf q = t2.length := List.idxOf_eq_length h
  simp only [inAll, inStep, if_pos this, if_neg hl]
theorem inAll_full {fuel : Nat} {q : PP} {r : List PP} {t2 : List PP} {X : List Int} (h : q ∉ t2) (hl : t2.length = fuel) : inAll fuel (q :: r) (t2, X) = none := by
  have : t2.idxOf q = t2.length := List.idxOf_eq_length h
  simp only [inAll, inStep, if_pos this, if_pos hl]
theorem qs_drop {α β : Type} (f : α → β) (l : List α) (k : Nat) (h : k < l.length) : (l.map f).drop k = f l[k] :: (l.map f).drop (k + 1) := by
  rw [List.drop_eq_getElem_cons (by simpa using h)]; simp
/-- No fuel is left: the result. -/
theorem of_full {a b : Dfa} {op : Nat} {fuel : Int} {gk : Nat} {st : OutS} (hA : rightB a = true) (hB : rightB b = true) (hop : op = 1 ∨ op = 2 ∨ op = 3 ∨ op = 4) (h0 : 0 < fuel) (h1 : fuel ≤ 4000)
    (hr : outRun a b op fuel.toNat (allB a b) (fuel.toNat + 1) ⟨[(0, 0)], [], []⟩ = outRun a b op fuel.toNat (allB a b) gk st) (hg : 0 < gk) (hlt : st.next.length < st.todo.length)
    (hs : outStep a b op fuel.toNat (allB a b) st = none) : ofB a b op fuel = (⟨[], [], []⟩, 181) := by
  have hop' : ¬ (op = 0 ∨ 4 < op) := by omega
  have hfu' : ¬ (fuel < 0 ∨ fuel > 4000) := by omega
  have hne2 : ¬ fuel = 0 := by omega
  have hn : outRun a b op fuel.toNat (allB a b) gk st = none := by
    cases gk with
    | zero => omega
    | succ g => unfold outRun; rw [if_pos hlt, hs]
  unfold ofB prodB
  rw [hA, hB, if_neg (by simp), if_neg hop', if_neg hfu', if_neg hne2, hr, hn]; rfl
/-- One more state is done. -/
theorem of_step {a b : Dfa} {op fuel gk : Nat} {cls : List BSet} {st st' : OutS} (hg : 0 < gk) (hlt : st.next.length < st.todo.length) (hs : outStep a b op fuel cls st = some st') : outRun a b op fuel cls gk st = outRun a b op fuel cls (gk - 1) st' := by
  cases gk with
  | zero => omega
  | succ g => rw [outRun, if_pos hlt, hs]; rfl
end Rp
end

section
set_option linter.unusedVariables false
set_option linter.unusedSimpArgs false
namespace Rp
open Go
section
variable {P : Program} {ops : Array Oper} {Q : Exit → Act → World → Prop} {md : Region.Mode} {S : Bool → World → Prop} {L : Bool → List Nat}
def wpAnyF (P : Program) (md : Region.Mode) (ops : Array Oper) (Q : Exit → Act → World → Prop) (S : Bool → World → Prop) (L : Bool → List Nat) : Nat → Array Bool → Act → World → Prop
  | 0, listed, a, w => Region.ready md ops listed = [] ∧ Q .normal a w
  | fuel + 1, listed, a, w =>
    (Region.ready md ops listed = [] → Q .normal a w) ∧
    ∀ i ∈ Region.ready md ops listed, wpOp P ops Q i (fun a' w' => (∀ b, needT md ops (L b) i = true → S b w → S b w') ∧ wpAnyF P md ops Q S L fuel (listed.setIfInBounds i true) a' w') a w
theorem wpAny_of_F : ∀ (fuel : Nat) (listed : Array Bool) (a : Act) (w : World), wpAnyF P md ops Q S L fuel listed a w → wpAny P md ops Q fuel listed a w
  | 0, _, _, _, h => h
  | fuel + 1, _, _, _, h => ⟨h.1, fun i hi => wpOp_mono (fun a' w' h' => wpAny_of_F fuel _ a' w' h'.2) (h.2 i hi)⟩
theorem wpAnyF_first {i : Nat} {oi : Oper} {v : Value} {b : Bool} (hL : i ∈ L b) (hi : ops[i]? = some oi) (hsel : ∀ (j : Nat) (o : Oper) cs b, ops[j]? = some o → o.op ≠ .select cs b)
    (hQ : ∀ c a w, Q (.panic c) (a.put oi.dst v) w → Q (.panic c) a w) :
    ∀ (fuel : Nat) (listed : Array Bool) (a : Act) (w : World),
      (∀ j oj, ops[j]? = some oj → j ≠ i → listed.getD j true = false → (∀ e ∈ oj.after, Region.binds md e = true → e.on ≠ i) → oi.apart ops oj = true) →
      i ∈ Region.ready md ops listed → YieldsIf P ops (S b) oi v a → S b w →
      wpAnyF P md ops Q S L fuel (listed.setIfInBounds i true) (a.put oi.dst v) w → wpAnyF P md ops Q S L (fuel + 1) listed a w := by
  intro fuel
  induction fuel with
  | zero =>
    intro listed a w _ hr hy hS H
    refine ⟨fun h => (by rw [h] at hr; cases hr), fun j hj => ?_⟩
    by_cases hji : j = i
    · subst hji; exact hy.wpOp hi hS ⟨fun _ _ h => h, H⟩
    · have := ready_mono hj hji
      rw [H.1] at this
      cases this
  | succ fuel ih =>
    intro listed a w hfree hr hy hS H
    refine ⟨fun h => (by rw [h] at hr; cases hr), fun j hj => ?_⟩
    by_cases hji : j = i
    · subst hji; exact hy.wpOp hi hS ⟨fun _ _ h => h, H⟩
    · have h1 := H.2 j (ready_mono hj hji)
      obtain ⟨hjun, oj, hoj, hall⟩ := mem_ready.1 hj
      have hnot : ∀ e ∈ oj.after, Region.binds md e = true → e.on ≠ i := fun e he hbn heq => by
        have h1 := hall e he hbn
        have h0 := (mem_ready.1 hr).1
        rw [heq] at h1
        rcases Nat.lt_or_ge i listed.size with h' | h'
        · simp [h'] at h0 h1; rw [h0] at h1; cases h1
        · simp [Array.getElem?_eq_none h'] at h1
      have hneed : needT md ops (L b) j = true := by
        refine List.any_eq_true.2 ⟨i, hL, ?_⟩
        cases hw : Region.waitsFor md ops j i with
        | false => rfl
        | true =>
          obtain ⟨oj', hoj', e, he, hb, heq⟩ := Region.waitsFor_spec hw
          rw [hoj] at hoj'
          cases hoj'
          exact absurd heq (hnot e he hb)
      have h2 := wpOp_putIf hoj (hfree j oj hoj hji hjun hnot) (fun cs b => hsel i oi cs b hi) (fun cs b => hsel j oj cs b hoj) hQ hy h1
      have hfree' : ∀ k ok, ops[k]? = some ok → k ≠ i → (listed.setIfInBounds j true).getD k true = false →
          (∀ e ∈ ok.after, Region.binds md e = true → e.on ≠ i) → oi.apart ops ok = true := fun k ok hk hki hun hno => by
        refine hfree k ok hk hki ?_ hno
        by_cases hjk : j = k
        · subst hjk; exact hjun
        · rw [getD_set_ne true hjk] at hun; exact hun
      refine wpOp_mono (fun a' w' h3 => ⟨h3.2.1, ih (listed.setIfInBounds j true) a' w' hfree' (ready_mono hr (Ne.symm hji)) h3.1 (h3.2.1 b hneed hS) ?_⟩) h2
      rw [Array.setIfInBounds_comm _ _ hji]
      exact h3.2.2
theorem wpAnyF_firstY {i : Nat} {oi : Oper} {v : Value} (hi : ops[i]? = some oi) (hsel : ∀ (j : Nat) (o : Oper) cs b, ops[j]? = some o → o.op ≠ .select cs b)
    (hQ : ∀ c a w, Q (.panic c) (a.put oi.dst v) w → Q (.panic c) a w) :
    ∀ (fuel : Nat) (listed : Array Bool) (a : Act) (w : World),
      (∀ j oj, ops[j]? = some oj → j ≠ i → listed.getD j true = false → (∀ e ∈ oj.after, Region.binds md e = true → e.on ≠ i) → oi.apart ops oj = true) →
      i ∈ Region.ready md ops listed → YieldsIf P ops (fun _ => True) oi v a →
      wpAnyF P md ops Q S L fuel (listed.setIfInBounds i true) (a.put oi.dst v) w → wpAnyF P md ops Q S L (fuel + 1) listed a w := by
  intro fuel
  induction fuel with
  | zero =>
    intro listed a w _ hr hy H
    refine ⟨fun h => (by rw [h] at hr; cases hr), fun j hj => ?_⟩
    by_cases hji : j = i
    · subst hji; exact hy.wpOp hi trivial ⟨fun _ _ h => h, H⟩
    · have := ready_mono hj hji
      rw [H.1] at this
      cases this
  | succ fuel ih =>
    intro listed a w hfree hr hy H
    refine ⟨fun h => (by rw [h] at hr; cases hr), fun j hj => ?_⟩
    by_cases hji : j = i
    · subst hji; exact hy.wpOp hi trivial ⟨fun _ _ h => h, H⟩
    · have h1 := H.2 j (ready_mono hj hji)
      obtain ⟨hjun, oj, hoj, hall⟩ := mem_ready.1 hj
      have hnot : ∀ e ∈ oj.after, Region.binds md e = true → e.on ≠ i := fun e he hbn heq => by
        have h1 := hall e he hbn
        have h0 := (mem_ready.1 hr).1
        rw [heq] at h1
        rcases Nat.lt_or_ge i listed.size with h' | h'
        · simp [h'] at h0 h1; rw [h0] at h1; cases h1
        · simp [Array.getElem?_eq_none h'] at h1
      have h2 := wpOp_putIf hoj (hfree j oj hoj hji hjun hnot) (fun cs b => hsel i oi cs b hi) (fun cs b => hsel j oj cs b hoj) hQ hy h1
      have hfree' : ∀ k ok, ops[k]? = some ok → k ≠ i → (listed.setIfInBounds j true).getD k true = false →
          (∀ e ∈ ok.after, Region.binds md e = true → e.on ≠ i) → oi.apart ops ok = true := fun k ok hk hki hun hno => by
        refine hfree k ok hk hki ?_ hno
        by_cases hjk : j = k
        · subst hjk; exact hjun
        · rw [getD_set_ne true hjk] at hun; exact hun
      refine wpOp_mono (fun a' w' h3 => ⟨h3.2.1, ih (listed.setIfInBounds j true) a' w' hfree' (ready_mono hr (Ne.symm hji)) h3.1 ?_⟩) h2
      rw [Array.setIfInBounds_comm _ _ hji]
      exact h3.2.2
theorem wpAnyF_takeY {i : Nat} {oi : Oper} {v : Value} {fuel : Nat} {listed : Array Bool} {a : Act} {w : World} (hi : ops.toList[i]? = some oi)
    (hs : Region.noSelect ops = true) (hf : Region.free md ops listed i = true) (hr : (Region.ready md ops listed).contains i = true)
    (hQ : ∀ c a w, Q (.panic c) (a.put oi.dst v) w → Q (.panic c) a w) (hw : Region.wanted oi (yielded ops a.tmps) = true) (hy : ∀ w, (execOp a.eval oi).run P w = .ok (.value v) w)
    (h : wpAnyF P md ops Q S L fuel (listed.setIfInBounds i true) (a.put oi.dst v) w) : wpAnyF P md ops Q S L (fuel + 1) listed a w :=
  have hi' : ops[i]? = some oi := by rw [← hi]; simp
  wpAnyF_firstY hi' (Region.noSelect_spec hs) hQ fuel listed a w (Region.free_spec hi' hf) (by simpa using hr) (.inl ⟨hw, fun w _ => hy w⟩) h
theorem wpAnyF_take (b : Bool) {i : Nat} {oi : Oper} {v : Value} {fuel : Nat} {listed : Array Bool} {a : Act} {w : World} (hL : (L b).contains i = true) (hi : ops.toList[i]? = some oi)
    (hs : Region.noSelect ops = true) (hf : Region.free md ops listed i = true) (hr : (Region.ready md ops listed).contains i = true)
    (hQ : ∀ c a w, Q (.panic c) (a.put oi.dst v) w → Q (.panic c) a w) (hw : Region.wanted oi (yielded ops a.tmps) = true) (hS : S b w) (hy : ∀ w, S b w → (execOp a.eval oi).run P w = .ok (.value v) w)
    (h : wpAnyF P md ops Q S L fuel (listed.setIfInBounds i true) (a.put oi.dst v) w) : wpAnyF P md ops Q S L (fuel + 1) listed a w :=
  have hi' : ops[i]? = some oi := by rw [← hi]; simp
  wpAnyF_first (by simpa using hL) hi' (Region.noSelect_spec hs) hQ fuel listed a w (Region.free_spec hi' hf) (by simpa using hr) (.inl ⟨hw, hy⟩) hS h
/-- The one that may come up. -/
theorem wpAnyF_one {i : Nat} {o : Oper} {fuel : Nat} {listed : Array Bool} {a : Act} {w : World} (hi : ops.toList[i]? = some o) (hr : Region.ready md ops listed = [i]) (hw : Region.wanted o (yielded ops a.tmps) = true)
    (h : ∀ K : Act → World → Prop, (∀ a' w', (∀ b, needT md ops (L b) i = true → S b w → S b w') → wpAnyF P md ops Q S L fuel (listed.setIfInBounds i true) a' w' → K a' w') → Oper.wp P o a w K Q) : wpAnyF P md ops Q S L (fuel + 1) listed a w := by
  have hi' : ops[i]? = some o := by rw [← hi]; simp
  refine ⟨fun h0 => (by rw [hr] at h0; cases h0), fun j hj => ?_⟩
  rw [hr] at hj
  obtain rfl : j = i := by simpa using hj
  unfold wpOp
  simp only [hi', hw, if_true]
  exact .inl (h _ fun a' w' h1 h2 => ⟨h1, h2⟩)
theorem wpAnyF_done {listed : Array Bool} {a : Act} {w : World} (hr : Region.ready md ops listed = []) (h : Q .normal a w) :
    ∀ fuel, wpAnyF P md ops Q S L fuel listed a w
  | 0 => ⟨hr, h⟩
  | _ + 1 => ⟨fun _ => h, by rw [hr]; simp⟩
theorem wp_region_F (S : Bool → World → Prop) (L : Bool → List Nat) {id : Nat} {a : Act} {w : World} (hm : P.follows .mixedOrders = true)
    (h : wpAnyF P .any ops Q S L ops.size (Array.replicate ops.size false) a w.drew) : (Code.region id ops true).wp P Q a w :=
  wp_region_any hm (wpAny_of_F _ _ _ _ h)
end
end Rp
end
