/- Arrays of 256 whole numbers: their cells, loads and stores of the whole. The reference's sets: Words, Size. The reference's alphabets: Parts, Of, Leasts, Set, classes. -/
import Derived.Test.YtmfijgigfianeaaGreatGrRev
import Derived.Test.YtmfijgigfianeaaGreatGrDfa
import Derived.Deep.MidRow
import Derived.Laws.Rows
import Derived.Test.YtmfijgigfianeaaGreatGrCount
section
set_option linter.unusedVariables false
set_option linter.unusedSimpArgs false
namespace Rp
open Go Go.RowKit
/-- The cells of an array of 256 numbers. -/
def arrC (f : Nat → Int) : Array Value := ((List.range 256).map fun c => Value.int .i64 (f c)).toArray
theorem arrC_size (f : Nat → Int) : (arrC f).size = 256 := by simp [arrC]
theorem arrC_at (f : Nat → Int) (c : Nat) (hc : c < 256) : (arrC f)[c]? = some (.int .i64 (f c)) := by simp [arrC, hc]
theorem arrC_ext {f g : Nat → Int} (h : ∀ c, c < 256 → f c = g c) : arrC f = arrC g := by
  unfold arrC
  congr 1
  apply List.map_congr_left
  intro c hc
  rw [h c (List.mem_range.1 hc)]
theorem arrC_set (f : Nat → Int) (c : Nat) (hc : c < 256) (x : Int) : (arrC f).setIfInBounds c (.int .i64 x) = arrC (fun d => if d = c then x else f d) := by
  apply Array.ext_getElem?
  intro i
  by_cases hi : i < 256
  · rw [arrC_at _ _ hi]
    by_cases h : i = c
    · subst h
      rw [Array.getElem?_setIfInBounds_self_of_lt (by rw [arrC_size]; exact hc)]; simp
    · rw [Array.getElem?_setIfInBounds_ne (Ne.symm h), arrC_at _ _ hi]; simp [h]
  · rw [Array.getElem?_eq_none (by simp [arrC_size]; omega), Array.getElem?_eq_none (by simp [arrC_size]; omega)]
theorem arrC_zero : Array.replicate 256 (Value.int .i64 0) = arrC (fun _ => 0) := by
  apply Array.ext_getElem?
  intro i
  by_cases hi : i < 256
  · rw [arrC_at _ _ hi, Array.getElem?_replicate, if_pos hi]
  · rw [Array.getElem?_eq_none (by simp; omega), Array.getElem?_eq_none (by simp [arrC_size]; omega)]
theorem arrC_one (f : Nat → Int) : (arrC f).all (·.oneCell') = true := by
  rw [Array.all_eq_true]
  intro i hi
  rw [arrC_size] at hi
  have := arrC_at f i hi
  rw [Array.getElem?_eq_getElem (by rw [arrC_size]; exact hi)] at this
  rw [Option.some.inj this]; rfl
theorem arrC_inj {f g : Nat → Int} (h : arrC f = arrC g) (c : Nat) (hc : c < 256) : f c = g c := by
  have h1 := arrC_at f c hc
  rw [h, arrC_at g c hc] at h1
  injection h1 with h1
  injection h1 with _ h1
  exact h1.symm
theorem setCells_at {b : Nat} {t : TypeId} : ∀ (vs : List Value) (o : Nat) (w : World) (cur : Array Value), w.heap[b]? = some (.cells cur t (0, 0)) → ∃ new, (w.setCells b o vs).heap[b]? = some (.cells new t (0, 0)) ∧ new.size = cur.size ∧ ∀ j, j < cur.size → new[j]? = if o ≤ j ∧ j < o + vs.length then vs[j - o]? else cur[j]?
  | [], o, w, cur, h => ⟨cur, h, rfl, fun j hj => by rw [if_neg (by simp only [List.length_nil]; omega)]⟩
  | v :: vs, o, w, cur, h => by
    have h1 := setCell_heap w b o cur t (0, 0) v h
    obtain ⟨new, hn, hs, ha⟩ := setCells_at vs (o + 1) (w.setCell ⟨b, o, none⟩ v) _ h1
    refine ⟨new, hn, by simpa using hs, fun j hj => ?_⟩
    rw [ha j (by simpa using hj)]
    by_cases e : o = j
    · subst e
      rw [if_neg (by omega), if_pos (by simp), Array.getElem?_setIfInBounds_self_of_lt hj]; simp
    · rw [Array.getElem?_setIfInBounds_ne e]
      by_cases c : o ≤ j ∧ j < o + (v :: vs).length
      · rw [if_pos c, if_pos (by simp only [List.length_cons] at c; omega)]
        have : j - o = (j - (o + 1)) + 1 := by omega
        rw [this, List.getElem?_cons_succ]
      · rw [if_neg c, if_neg (by simp only [List.length_cons] at c; omega)]
theorem setCells_keep (b : Nat) : ∀ (vs : List Value) (o : Nat) (w : World), Kp (fun k => k = b) w (w.setCells b o vs)
  | [], _, w => Kp.refl _ w
  | v :: vs, o, w => ((Kp.refl (fun k => k = b) w).setCell ⟨b, o, none⟩ rfl v).trans (setCells_keep b vs (o + 1) _)
/-- A whole row is stored. -/
theorem setCells_all {w : World} {b : Nat} {t : TypeId} {cur cs : Array Value} (h : w.heap[b]? = some (.cells cur t (0, 0))) (hs : cs.size = cur.size) : (w.setCells b 0 cs.toList).heap[b]? = some (.cells cs t (0, 0)) := by
  obtain ⟨new, hn, hl, ha⟩ := setCells_at cs.toList 0 w cur h
  rw [hn]
  have : new = cs := by
    apply Array.ext_getElem?
    intro j
    by_cases hj : j < cur.size
    · rw [ha j hj, if_pos (by simp; omega)]; simp
    · rw [Array.getElem?_eq_none (by omega), Array.getElem?_eq_none (by omega)]
  rw [this]
theorem there_of_row {w : World} {b : Nat} {t : TypeId} {cur : Array Value} (h : w.heap[b]? = some (.cells cur t (0, 0))) : w.there b 0 cur.size := fun j hj => by
  refine ⟨?_, by rw [Nat.zero_add]; exact frozen_of_row w b j cur t h⟩
  rw [Nat.zero_add, cell_of_row w b j cur t (0, 0) h, Array.getElem?_eq_getElem hj]; rfl
/-- The store of a whole row: the world behind it is told by what lies in the block. -/
theorem wpList_store_all {P : Program} {ops : Array Oper} {rest : List Oper} {op : Oper} {a : Act} {w : World} {Q : Exit → Act → World → Prop} (hgd : op.guard = none) (ty : TypeId) (x y : Operand) (ho : op.op = .store ty x y)
    (b : Nat) (t : TypeId) (cur cells : Array Value) (hx : a.eval x = .pointer (some ⟨b, 0, none⟩)) (hy : a.eval y = .agg cells)
    (hc : w.heap[b]? = some (.cells cur t (0, 0))) (hs : cells.size = cur.size) (hi : (P.info? ty).map (·.size) = some cells.size) (h1 : cells.all (·.oneCell') = true)
    (h : ∀ w', w'.heap[b]? = some (.cells cells t (0, 0)) → Kp (fun k => k = b) w w' → wpList P ops Q rest (a.put op.dst undef) w') : wpList P ops Q (op :: rest) a w :=
  wpList_store_mid hgd ty x y ho b 0 cells hx hy (by rw [hs]; exact there_of_row hc) hi h1 (h _ (setCells_all hc hs) (setCells_keep b _ 0 w))
abbrev bitI (b : Bool) : Int := if b then 1 else 0
/-- A set of the reference: 0 or 1 for each byte. -/
def setA (s : BSet) : Array Value := arrC fun c => bitI (s.getLsbD c)
theorem setA_size (s : BSet) : (setA s).size = 256 := arrC_size _
theorem setA_at (s : BSet) (c : Nat) (hc : c < 256) : (setA s)[c]? = some (.int .i64 (bitI (s.getLsbD c))) := arrC_at _ c hc
theorem setA_inj {s t : BSet} (h : setA s = setA t) : s = t := by
  apply BitVec.eq_of_getLsbD_eq
  intro c hc
  have := arrC_inj h c hc
  cases h1 : s.getLsbD c <;> cases h2 : t.getLsbD c <;> simp [h1, h2, bitI] at this ⊢
/-- Sets of the reference as elements. -/
def Kref : Kd BSet where
  sz := 256
  R := fun _ _ s c => c = (setA s).toList
  len := fun h => by rw [h]; simp [setA_size]
  one := fun {w F x c} h u hu => by
    subst h
    have h1 := arrC_one fun c => bitI (x.getLsbD c)
    exact Array.all_eq_true_iff_forall_mem.1 h1 u (by simpa [setA] using hu)
  mono := fun _ h => h
  move := fun _ h => h
  bound := fun h => h
theorem S_ref {w : World} {F : Nat → Prop} {A : Option Addr} {xs : List BSet} (h : Kref.S w F A xs) {i : Nat} (hi : i < xs.length) :
    ∃ b off, A = some ⟨b, off, none⟩ ∧ F b ∧ b < w.heap.size ∧ ∀ c, c < 256 → w.cell? ⟨b, off + i * 256 + c, none⟩ = some (.int .i64 (bitI (xs[i].getLsbD c))) := by
  obtain ⟨b, off, c, e, hF, hlt, hcl, hp, hj⟩ := h.at (List.getElem?_eq_getElem hi)
  have hc : c = (setA xs[i]).toList := hp
  subst hc
  exact ⟨b, off, e, hF, hlt, fun d hd => hj d _ (by rw [Array.getElem?_toList, setA_at _ _ hd])⟩
theorem range_ref {w : World} {F : Nat → Prop} {A : Option Addr} {xs : List BSet} (h : Kref.S w F A xs) {i : Nat} (hi : i < xs.length) :
    ∃ b off, A = some ⟨b, off, none⟩ ∧ F b ∧ b < w.heap.size ∧ w.rangeAt b (off + i * 256) (setA xs[i]).toList := by
  obtain ⟨b, off, c, e, hF, hlt, hcl, hp, hj⟩ := h.at (List.getElem?_eq_getElem hi)
  have hc : c = (setA xs[i]).toList := hp
  subst hc
  exact ⟨b, off, e, hF, hlt, hj⟩
theorem fill_fold : ∀ (L : List Value) (k : Nat) (init : Array Value), ((L.zipIdx k).foldl (fun (acc : Array Value) (x : Value × Nat) => acc.setIfInBounds (0 + x.2) x.1) init).size = init.size ∧
    ∀ j, j < init.size → ((L.zipIdx k).foldl (fun (acc : Array Value) (x : Value × Nat) => acc.setIfInBounds (0 + x.2) x.1) init)[j]? = if k ≤ j ∧ j < k + L.length then L[j - k]? else init[j]?
  | [], k, init => ⟨rfl, fun j hj => by rw [if_neg (by simp only [List.length_nil]; omega)]; rfl⟩
  | v :: L, k, init => by
    rw [List.zipIdx_cons, List.foldl_cons]
    obtain ⟨h1, h2⟩ := fill_fold L (k + 1) (init.setIfInBounds (0 + k) v)
    refine ⟨by rw [h1]; simp, fun j hj => ?_⟩
    rw [h2 j (by simpa using hj), Nat.zero_add]
    by_cases e : k = j
    · subst e
      rw [if_neg (by omega), if_pos (by simp), Array.getElem?_setIfInBounds_self_of_lt hj]; simp
    · rw [Array.getElem?_setIfInBounds_ne e]
      by_cases c : k ≤ j ∧ j < k + (v :: L).length
      · rw [if_pos c, if_pos (by simp only [List.length_cons] at c; omega)]
        have : j - k = (j - (k + 1)) + 1 := by omega
        rw [this, List.getElem?_cons_succ]
      · rw [if_neg c, if_neg (by simp only [List.length_cons] at c; omega)]
theorem fill_whole (cs init : Array Value) (h : init.size = cs.size) : cs.zipIdx.foldl (fun (acc : Array Value) (x : Value × Nat) => acc.setIfInBounds (0 + x.2) x.1) init = cs := by
  rw [← Array.foldl_toList, Array.toList_zipIdx]
  obtain ⟨h1, h2⟩ := fill_fold cs.toList 0 init
  apply Array.ext_getElem?
  intro j
  by_cases hj : j < init.size
  · rw [h2 j hj, if_pos (by simp; omega)]; simp
  · rw [Array.getElem?_eq_none (by omega), Array.getElem?_eq_none (by omega)]
/-- One element that is a whole row. -/
theorem run_buildSlice_row {P : Program} (t e : TypeId) (i : TypeInfo) (z : Value) (cs : Array Value) (ht : P.underlying t = some (.slice e)) (hi : P.info? e = some i) (hz : i.zero = some z) (hs : i.size = cs.size) (hzs : z.cells.size = cs.size) (hp : 0 < cs.size) (hl : cs.size ≤ 16777216) (w : World) :
    (Instr.buildSlice t 1 #[(0, .agg cs)]).run P w = .ok (.slice (some ⟨w.heap.size, 0, none⟩) 1 1) (w.alloc (.cells cs e)) := by
  have h1 : ¬ (1 * cs.size > 2 ^ 24) := by omega
  have h2 : ¬ (1 * cs.size = 0) := by omega
  have hf := fill_whole cs ((Array.range (1 * cs.size)).map (z.cells[· % z.cells.size]!)) (by simp)
  have hsz : (Go.sizeOf e).run P w = .ok cs.size w := by simp [Go.sizeOf, typeInfo, hi, hs]
  have hzv : (zeroValue e).run P w = .ok z w := by simp [zeroValue, typeInfo, hi, hz]
  have hfill : Instr.fill (fun i => some (i * cs.size, cs.size)) ((Array.range (1 * cs.size)).map (z.cells[· % z.cells.size]!)) [(0, .agg cs)] = some cs := by
    unfold Instr.fill
    have hc : (Value.agg cs).cells = cs := rfl
    have hne : (decide ((Value.agg cs).cells.size ≠ cs.size) || decide (0 * cs.size + (Value.agg cs).cells.size > ((Array.range (1 * cs.size)).map (z.cells[· % z.cells.size]!)).size)) = false := by
      rw [hc]; simp
    simp only [hne, Bool.false_eq_true, if_false]
    unfold Instr.fill
    rw [hc, Nat.zero_mul]
    exact congrArg some hf
  have hfill' : Instr.fill (fun i => some (i * cs.size, cs.size)) ((Array.range (1 * cs.size)).map (z.cells[· % z.cells.size]!)) #[((0 : Nat), Value.agg cs)].toList = some cs := hfill
  unfold Instr.buildSlice
  simp only [Sem.run_bind, run_underlying ht, Result.andThen_ok, hsz, if_neg h1, if_neg h2, hzv, Sem.run_pure, hfill']
  rfl
theorem wp_build_row {P : Program} {o : Oper} {a : Act} {w w' : World} {K : Act → World → Prop} {Q : Exit → Act → World → Prop} (t : TypeId) (x : Operand) (ho : o.op = .buildSlice t 1 #[(0, x)]) (v r : Value) (hx : a.eval x = v)
    (hrun : (Instr.buildSlice t 1 #[(0, v)]).run P w = .ok r w') (h : K (a.put o.dst r) w') : o.wp P a w K Q := by
  unfold Oper.wp execOp
  simp only [ho, List.map_toArray, List.map_cons, List.map_nil, hx, Sem.run_bind, hrun, Result.andThen_ok, Sem.run_pure]
  exact h
theorem wpList_build_row {P : Program} {ops : Array Oper} {rest : List Oper} {o : Oper} {a : Act} {w w' : World} {Q : Exit → Act → World → Prop} (hgd : o.guard = none) (t : TypeId) (x : Operand) (ho : o.op = .buildSlice t 1 #[(0, x)]) (v r : Value) (hx : a.eval x = v)
    (hrun : (Instr.buildSlice t 1 #[(0, v)]).run P w = .ok r w') (h : wpList P ops Q rest (a.put o.dst r) w') : wpList P ops Q (o :: rest) a w :=
  wpList_plain hgd fun _ hK => wp_build_row t x ho v r hx hrun (hK _ _ h)
end Rp
namespace Rp
open Go Go.RowKit
theorem exec_load_mid {P : Program} {op : Oper} {a : Act} {w : World} (ty : TypeId) (x : Operand) (ho : op.op = .load ty x) (b o : Nat) (hx : a.eval x = .pointer (some ⟨b, o, none⟩)) (cs : List Value) (d : TypeDesc) (hc : w.rangeAt b o cs)
    (hu : P.underlying ty = some d) (hd : d.isRow = true) (hi : (P.info? ty).map (·.size) = some cs.length) : (execOp a.eval op).run P w = .ok (.value (.agg cs.toArray)) w := by
  unfold execOp
  simp only [ho, hx, Sem.run_bind, run_loadAt_mid w b o ty cs d hc hu hd hi, Result.andThen_ok, Sem.run_pure]
theorem setA_list (s : BSet) : (setA s) = (((List.range 256).map fun c => bitI (s.getLsbD c)).map (Value.int .i64)).toArray := by
  unfold setA arrC; rw [List.map_map]; rfl
/-- '==' of two sets of the reference. -/
theorem run_eq_ref {P : Program} {t e : TypeId} (ht : P.underlying t = some (.array 256 e)) (he : P.underlying e = some (.int .i64)) (hs : ∀ w, (Go.sizeOf e).run P w = .ok 1 w) (s s' : BSet) (w : World) :
    (Op.equalIn 10000 t (.agg (setA s)) (.agg (setA s'))).run P w = .ok (decide (s = s')) w := by
  rw [setA_list s, setA_list s']
  refine (run_equalIn_ints ht he hs 9998 _ _ (by simp) (by simp) w).trans ?_
  congr 1
  apply decide_eq_decide.2
  constructor
  · intro hl
    apply setA_inj
    rw [setA_list s, setA_list s', hl]
  · rintro rfl; rfl
end Rp
end

section
set_option linter.unusedVariables false
set_option linter.unusedSimpArgs false
namespace Go.Proofs
open Go.RowKit Go.Shelf Rp Go.Maps
attribute [local go_sem] Oper.semAt_some
set_option maxRecDepth 100000 in
theorem zero_ref : Tryz.zeroCells75 = Array.replicate 256 (Value.int .i64 0) := by kernel_rfl
theorem zero_refC : Tryz.zeroCells75 = arrC fun _ => 0 := zero_ref.trans arrC_zero
theorem size_ref : (Tryz.prog.info? 75).map (·.size) = some 256 := by kernel_rfl
set_option maxRecDepth 100000 in
set_option maxHeartbeats 800000 in
theorem c_words (s : BSet) (w : World) : Calls Tryz.prog 36 #[setV s] w fun e w' => e = .returned (.agg (setA s)) ∧ Below w.heap.size w w' := by
  have hz := zero_refC
  go_enter Tryz.func36, Tryz.ntmps36
  go_wp2
  refine wp_name fun W0 hW0 => ?_
  have q0 : W0.heap[w.heap.size]? = some (.cells (setC s) 32 (0, 0)) := by
    rw [← hW0]; exact (Below.heap_alloc _ _ _ (by simp; omega)).trans ((Below.heap_alloc _ _ _ (by simp)).trans (World.alloc_heap_new w _))
  have q1 : W0.heap[w.heap.size + 1]? = some (.cells (arrC fun _ => 0) 75 (0, 0)) := by
    rw [← hW0]; refine (Below.heap_alloc _ _ _ (by simp)).trans ?_
    have := World.alloc_heap_new (w.alloc (.cells (setC s) 32)) (.cells (arrC fun _ => 0) 75)
    simpa using this
  have q2 : W0.heap[w.heap.size + 1 + 1]? = some (.cells (arrC fun _ => 0) 75 (0, 0)) := by
    rw [← hW0]
    have := World.alloc_heap_new ((w.alloc (.cells (setC s) 32)).alloc (.cells (arrC fun _ => 0) 75)) (.cells (arrC fun _ => 0) 75)
    simpa using this
  have hE0 : Ext w W0 := by rw [← hW0]; exact (((Ext.refl _).alloc _).alloc _).alloc _
  clear hW0 hz
  go_loopg [4] 257 (fun gk vc wr => ∃ c : Nat, vc = .int .i64 (c : Int) ∧ c ≤ 256 ∧ gk + c = 257 ∧ wr.heap[w.heap.size + 1 + 1]? = some (.cells (arrC fun d => if d < c then bitI (s.getLsbD d) else 0) 75 (0, 0)) ∧ Kp (fun k => k = w.heap.size + 1 + 1) W0 wr)
  case atStart => exact ⟨0, rfl, by omega, rfl, by simpa using q2, Kp.refl _ _⟩
  case round =>
    obtain ⟨c, rfl, hc, hgk, hb, hK⟩ := hrel
    have HG := Lib.hid hgk
    clear hgk
    have h0 := hK.heap q0 (by omega)
    by_cases hlt : c < 256
    · have hlt' : (c : Int) < 256 := by omega
      have hc0 : (0 : Int) ≤ c := by omega
      have hcx := (cell_of_row wr w.heap.size (c / 64) _ _ _ h0).trans (by simpa using setC_at s c hlt)
      have HH := Lib.hid hb
      have HK := Lib.hid hK
      clear hb hK h0
      obtain ⟨wo, rfl⟩ : ∃ x : World, x = wr := ⟨_, rfl⟩
      obtain ⟨go, rfl⟩ : ∃ x : Nat, x = gk := ⟨_, rfl⟩
      go_wp2
      go_loopg [5, 6] 65 (fun gk vx vi wr => ∃ i y : Nat, vi = .int .i64 (i : Int) ∧ vx = .int .u64 (y : Int) ∧ i ≤ c % 64 ∧ gk + i = 65 ∧ y = (wd s (c / 64)).toNat / 2 ^ i ∧ wo = wr)
      case atStart => exact ⟨0, (wd s (c / 64)).toNat, rfl, rfl, by omega, by omega, by simp, rfl⟩
      case round =>
        obtain ⟨i, y, rfl, rfl, hi, hgk, hy, rfl⟩ := hrel
        have HG2 := Lib.hid hgk
        have HY := Lib.hid hy
        have hyl : y ≤ 18446744073709551615 := by
          have h1 := (wd s (c / 64)).isLt
          have h2 := Nat.div_le_self (wd s (c / 64)).toNat (2 ^ i)
          omega
        have hy0 : (0 : Int) ≤ y := by omega
        have hy1 : (y : Int) ≤ 18446744073709551615 := by omega
        have hi0 : (0 : Int) ≤ i := by omega
        have hi1 : (i : Int) ≤ 64 := by omega
        clear hgk hy
        by_cases hli : i < c % 64
        · have hli' : (i : Int) < (c : Int) % 64 := by omega
          go_wp2
          go_roundg (gk - 1)
          case measure => have := HG2.out; omega
          case rel => exact ⟨i + 1, y / 2, by go_num, by go_num, by omega, by have := HG2.out; omega, by rw [HY.out, Nat.div_div_eq_div_mul, Nat.pow_succ], rfl⟩
        · have hli' : ¬ (i : Int) < (c : Int) % 64 := by omega
          obtain rfl : i = c % 64 := by omega
          have hce := (cell_of_row wo (w.heap.size + 1 + 1) c _ _ _ HH.out).trans (arrC_at _ c hlt)
          have hfr := frozen_of_row wo (w.heap.size + 1 + 1) c _ _ HH.out
          have hbit : bitI (s.getLsbD c) = ((y % 2 : Nat) : Int) := by
            rw [has_wd, HY.out]
            unfold bitI
            rw [BitVec.getLsbD, Nat.testBit_eq_decide_div_mod_eq]
            have : (wd s (c / 64)).toNat / 2 ^ (c % 64) % 2 < 2 := Nat.mod_lt _ (by omega)
            by_cases h : (wd s (c / 64)).toNat / 2 ^ (c % 64) % 2 = 1
            · rw [h]; simp
            · have h' : (wd s (c / 64)).toNat / 2 ^ (c % 64) % 2 = 0 := by omega
              rw [h']; simp
          have hset := setCell_heap wo (w.heap.size + 1 + 1) c _ _ _ (.int .i64 ((y : Int) % 2)) HH.out
          have hyy : ((y : Int) % 2) = ((y % 2 : Nat) : Int) := by omega
          rw [hyy, ← hbit, arrC_set _ c hlt] at hset
          have hext : arrC (fun d => if d = c then bitI (s.getLsbD c) else if d < c then bitI (s.getLsbD d) else 0) = arrC (fun d => if d < c + 1 then bitI (s.getLsbD d) else 0) := by
            apply arrC_ext
            intro d hd
            by_cases e : d = c
            · subst e; simp
            · have : (d < c + 1) = (d < c) := by rw [eq_iff_iff]; omega
              simp only [e, if_false, this]
          rw [hext] at hset
          have HSET := Lib.hid hset
          have HBIT := Lib.hid hbit
          clear hset hext hbit hyy
          go_wp2
          have hw : ((y : Int) % 2) = bitI (s.getLsbD c) := by rw [HBIT.out]; omega
          rw [hw]
          go_roundg (go - 1)
          case measure => have := HG.out; omega
          case rel => exact ⟨c + 1, by go_num, by omega, by have := HG.out; omega, HSET.out, HK.out.setCell ⟨w.heap.size + 1 + 1, c, none⟩ rfl _⟩
    · obtain rfl : c = 256 := by omega
      have h1 := hK.heap q1 (by omega)
      have hA : arrC (fun d => if d < 256 then bitI (s.getLsbD d) else 0) = setA s := arrC_ext fun d hd => by rw [if_pos hd]
      rw [hA] at hb
      have hsz : w.heap.size + 1 + 1 < wr.heap.size := (Array.getElem?_eq_some_iff.1 hb).1
      clear hA h0
      go_wp2_with (first
        | (refine wpList_load_row rfl _ _ rfl _ rfl _ (setA s) _ _ hb Tryz.underlying75 rfl (by rw [setA_size]; exact size_ref) ?_)
        | (refine wpList_store_all rfl _ _ _ rfl (w.heap.size + 1) _ _ (setA s) rfl rfl h1 (by rw [setA_size, arrC_size]) (by rw [setA_size]; exact size_ref) (arrC_one _) ?_; intro w9 hb9 hK9))
      refine bodyPost_ret (v := .agg (setA s)) (results_cell_row rfl _ _ _ _ _ _ _ rfl hb9 Tryz.underlying75 rfl (by rw [setA_size]; exact size_ref)) rfl ⟨rfl, (hE0.below.trans (hK.below hE0.size (fun k hk e => by omega))).trans (hK9.below (Nat.le_trans hE0.size hK.size) (fun k hk e => by omega))⟩
set_option maxRecDepth 100000 in
set_option maxHeartbeats 800000 in
theorem c_refSize (s : BSet) (w : World) : Calls Tryz.prog 77 #[.agg (setA s)] w fun e w' => e = .returned (.int .i64 (sizeI s)) ∧ Below w.heap.size w w' := by
  go_enter Tryz.func77, Tryz.ntmps77
  go_wp2
  refine wp_name fun W0 hW0 => ?_
  have q0 : W0.heap[w.heap.size]? = some (.cells (setA s) 75 (0, 0)) := by rw [← hW0]; exact World.alloc_heap_new w _
  have hE0 : Ext w W0 := by rw [← hW0]; exact (Ext.refl _).alloc _
  clear hW0
  go_loopg [3, 4] 257 (fun gk vn vc wr => ∃ c : Nat, vc = .int .i64 (c : Int) ∧ vn = .int .i64 (((bytesTo s c).length : Nat) : Int) ∧ c ≤ 256 ∧ gk + c = 257 ∧ W0 = wr)
  case atStart => exact ⟨0, rfl, rfl, by omega, rfl, rfl⟩
  case round =>
    obtain ⟨c, rfl, rfl, hc, hgk, rfl⟩ := hrel
    have HG := Lib.hid hgk
    have hln := bytesTo_length s c
    by_cases hlt : c < 256
    · have hlt' : (c : Int) < 256 := by omega
      have hc0 : (0 : Int) ≤ c := by omega
      have hce := (cell_of_row W0 w.heap.size c _ _ _ q0).trans (setA_at s c hlt)
      have hsc : (((bytesTo s (c + 1)).length : Nat) : Int) = ((bytesTo s c).length : Int) + bitI (s.getLsbD c) := by
        rw [bytesTo_succ, List.length_append]
        cases s.getLsbD c <;> simp [bitI]
      have hb1 : bitI (s.getLsbD c) ≤ 1 ∧ 0 ≤ bitI (s.getLsbD c) := by cases s.getLsbD c <;> simp [bitI]
      generalize bitI (s.getLsbD c) = z at *
      have HSC := Lib.hid hsc
      generalize (bytesTo s c).length = m at *
      have hz0 := hb1.2
      have hz1 := hb1.1
      clear hgk hsc hb1
      go_wp2
      go_roundg (gk - 1)
      case measure => have := HG.out; omega
      case rel => exact ⟨c + 1, by go_num, by rw [HSC.out], by omega, by have := HG.out; omega, rfl⟩
    · obtain rfl : c = 256 := by omega
      clear hgk
      go_wp2
      go_ret
      exact ⟨rfl, hE0.below⟩
end Go.Proofs
end

section
set_option linter.unusedVariables false
set_option linter.unusedSimpArgs false
namespace Rp
open Go Go.RowKit Go.Proofs
/-- For each byte the least one of its class. -/
def alpA (l : List BSet) : Array Value := arrC fun c => (leastN l c : Int)
theorem sameB_take (l : List BSet) (k c d : Nat) (h : k < l.length) : sameB (l.take (k + 1)) c d = (sameB (l.take k) c d && (l[k].getLsbD c == l[k].getLsbD d)) := by
  rw [List.take_succ_eq_append_getElem h]; unfold sameB; rw [List.all_append]; simp
theorem bitI_eq (a b : Bool) : (bitI a == bitI b) = (a == b) := by cases a <;> cases b <;> rfl
theorem leastN_of {l : List BSet} {c d : Nat} (hd : d ≤ c) (h : sameB l c d = true) (hb : ∀ e, e < d → sameB l c e = false) : leastN l c = d := by
  obtain ⟨h1, h2, h3⟩ := leastN_spec l c
  apply Nat.le_antisymm
  · apply Nat.le_of_not_lt; intro hlt
    rw [h3 d hlt] at h; cases h
  · apply Nat.le_of_not_lt; intro hlt
    rw [hb _ hlt] at h2; cases h2
end Rp
namespace Go.Proofs
open Go.RowKit Go.Shelf Rp Go.Maps
attribute [local go_sem] Oper.semAt_some
set_option maxRecDepth 100000 in
theorem zero_256 : Tryz.zeroCells74 = Array.replicate 256 (Value.int .i64 0) := by kernel_rfl
theorem zero_256C : Tryz.zeroCells74 = arrC fun _ => 0 := zero_256.trans arrC_zero
theorem size_256 : (Tryz.prog.info? 74).map (·.size) = some 256 := by kernel_rfl
set_option maxRecDepth 100000 in
theorem zero_alp : Tryz.zeroCells81 = Array.replicate 256 (Value.int .i64 0) := by kernel_rfl
theorem zero_alpC : Tryz.zeroCells81 = arrC fun _ => 0 := zero_alp.trans arrC_zero
theorem size_alp : (Tryz.prog.info? 81).map (·.size) = some 256 := by kernel_rfl
set_option maxRecDepth 100000 in
set_option maxHeartbeats 800000 in
theorem c_refParts (A : Option Addr) (cap : Nat) (l : List BSet) (F : Nat → Prop) (w : World) (hS : Kref.S w F A l) (hl : l.length ≤ 1000000000) :
    Calls Tryz.prog 60 #[.slice A l.length cap] w fun e w' => e = .returned (.agg (alpA l)) ∧ Below w.heap.size w w' := by
  have hz := zero_256C
  go_enter Tryz.func60, Tryz.ntmps60
  go_wp2
  refine wp_name fun W0 hW0 => ?_
  have q0 : W0.heap[w.heap.size]? = some (.cells (arrC fun _ => 0) 74 (0, 0)) := by
    rw [← hW0]; exact (Below.heap_alloc _ _ _ (by simp)).trans (World.alloc_heap_new w _)
  have q1 : W0.heap[w.heap.size + 1]? = some (.cells (arrC fun _ => 0) 74 (0, 0)) := by
    rw [← hW0]
    have := World.alloc_heap_new (w.alloc (.cells (arrC fun _ => 0) 74)) (.cells (arrC fun _ => 0) 74)
    simpa using this
  have hE0 : Ext w W0 := by rw [← hW0]; exact ((Ext.refl _).alloc _).alloc _
  clear hW0 hz
  go_loopg [4] 257 (fun gk vc wr => ∃ c : Nat, vc = .int .i64 (c : Int) ∧ c ≤ 256 ∧ gk + c = 257 ∧ wr.heap[w.heap.size + 1]? = some (.cells (arrC fun d => if d < c then (leastN l d : Int) else 0) 74 (0, 0)) ∧ Kp (fun k => k = w.heap.size + 1) W0 wr)
  case atStart => exact ⟨0, rfl, by omega, rfl, by simpa using q1, Kp.refl _ _⟩
  case round =>
    obtain ⟨c, rfl, hc, hgk, hb, hK⟩ := hrel
    have HG := Lib.hid hgk
    have HH := Lib.hid hb
    have HK := Lib.hid hK
    clear hgk
    by_cases hlt : c < 256
    · have hlt' : (c : Int) < 256 := by omega
      have hc0 : (0 : Int) ≤ c := by omega
      have hSr := hS.bound.step (w1 := wr) fun b hb _ => (hK.block b (Nat.lt_of_lt_of_le hb.2 hE0.size) (by have := hb.2; omega)).trans (hE0.below.block b hb.2)
      clear hb hK
      obtain ⟨wo, rfl⟩ : ∃ x : World, x = wr := ⟨_, rfl⟩
      obtain ⟨go, rfl⟩ : ∃ x : Nat, x = gk := ⟨_, rfl⟩
      go_wp2
      go_loopg [5] 257 (fun gk vd wr => ∃ d : Nat, vd = .int .i64 (d : Int) ∧ d ≤ c ∧ gk + d = 257 ∧ (∀ e, e < d → sameB l c e = false) ∧ ∃ q, wr = wo.drewN q)
      case atStart => exact ⟨0, rfl, by omega, rfl, fun e he => by omega, 0, rfl⟩
      case round =>
        obtain ⟨d, rfl, hd, hgk, hfd, q, rfl⟩ := hrel
        have HG2 := Lib.hid hgk
        have HFD := Lib.hid hfd
        have hd0 : (0 : Int) ≤ d := by omega
        have hdc : (d : Int) ≤ c := by omega
        have hd256 : (d : Int) < 256 := by omega
        clear hgk hfd
        obtain ⟨go2, rfl⟩ : ∃ x : Nat, x = gk := ⟨_, rfl⟩
        go_wp2
        go_loopg [6, 7] (l.length + 1) (fun gk vs vi wr => ∃ i : Nat, vi = .int .i64 (i : Int) ∧ vs = .bool (sameB (l.take i) c d) ∧ i ≤ l.length ∧ gk + i = l.length + 1 ∧ ∃ q, wr = wo.drewN q)
        case atStart => exact ⟨0, rfl, by simp [sameB], by omega, by omega, q, rfl⟩
        case round =>
          obtain ⟨i, rfl, rfl, hi, hgk, q2, rfl⟩ := hrel
          have HG3 := Lib.hid hgk
          clear hgk
          by_cases hli : i < l.length
          · have hli' : (i : Int) < l.length := by omega
            have hi0 : (0 : Int) ≤ i := by omega
            obtain ⟨b5, o5, rfl, hF5, hb5, e5⟩ := S_ref hSr hli
            have ec := e5 c hlt
            have ed := e5 d (by omega)
            have htk := sameB_take l i c d hli
            rw [← bitI_eq] at htk
            generalize bitI (l[i].getLsbD c) = x at *
            generalize bitI (l[i].getLsbD d) = y at *
            have HTK := Lib.hid htk
            clear htk e5 hSr
            obtain ⟨sb, hsb⟩ : ∃ sb, sameB (l.take i) c d = sb := ⟨_, rfl⟩
            rw [hsb]
            have HSB := Lib.hid hsb
            clear hsb
            cases sb
            · go_wp2
              go_quiet (fail)
              go_wp2
              go_roundg (gk - 1)
              case measure => have := HG3.out; omega
              case rel => exact ⟨i + 1, by go_num, by rw [HTK.out, HSB.out]; rfl, by omega, by have := HG3.out; omega, _, rfl⟩
            · go_wp2
              go_quiet (fail)
              go_wp2
              go_roundg (gk - 1)
              case measure => have := HG3.out; omega
              case rel => exact ⟨i + 1, by go_num, by rw [HTK.out, HSB.out]; rfl, by omega, by have := HG3.out; omega, _, rfl⟩
          · obtain rfl : i = l.length := by omega
            rw [List.take_length]
            have hce := (cell_of_row wo (w.heap.size + 1) c _ _ _ HH.out).trans (arrC_at _ c hlt)
            have hfr := frozen_of_row wo (w.heap.size + 1) c _ _ HH.out
            have hset := setCell_heap wo (w.heap.size + 1) c _ _ _ (.int .i64 (d : Int)) HH.out
            rw [arrC_set _ c hlt] at hset
            obtain ⟨sb, hsb⟩ : ∃ sb, sameB l c d = sb := ⟨_, rfl⟩
            rw [hsb]
            have HSB := Lib.hid hsb
            have HSET := Lib.hid hset
            clear hsb hset hSr
            cases sb
            · have hdc2 : d < c := by
                apply Nat.lt_of_le_of_ne hd
                rintro rfl
                have := HSB.out; rw [sameB_refl] at this; cases this
              go_wp2
              go_roundg (go2 - 1)
              case measure => have := HG2.out; omega
              case rel => exact ⟨d + 1, by go_num, by omega, by have := HG2.out; omega, fun e he => by
                rcases Nat.lt_or_eq_of_le (Nat.le_of_lt_succ he) with h | h
                · exact HFD.out e h
                · rw [h]; exact HSB.out, _, rfl⟩
            · have hln := leastN_of hd HSB.out HFD.out
              have hext : arrC (fun e => if e = c then (d : Int) else if e < c then (leastN l e : Int) else 0) = arrC (fun e => if e < c + 1 then (leastN l e : Int) else 0) := by
                apply arrC_ext
                intro e he
                by_cases h : e = c
                · subst h; simp [hln]
                · have : (e < c + 1) = (e < c) := by rw [eq_iff_iff]; omega
                  simp only [h, if_false, this]
              have HEXT := Lib.hid hext
              clear hext hln
              go_wp2
              go_roundg (go - 1)
              case measure => have := HG.out; omega
              case rel => exact ⟨c + 1, by go_num, by omega, by have := HG.out; omega, by rw [← HEXT.out]; exact HSET.out, (HK.out.trans (.of_ext ((Ext.refl _).drewN _))).setCell ⟨w.heap.size + 1, c, none⟩ rfl _⟩
    · obtain rfl : c = 256 := by omega
      have h1 := hK.heap q0 (by omega)
      have hA : arrC (fun d => if d < 256 then (leastN l d : Int) else 0) = alpA l := arrC_ext fun d hd => by rw [if_pos hd]
      rw [hA] at hb
      have hsz : w.heap.size + 1 < wr.heap.size := (Array.getElem?_eq_some_iff.1 hb).1
      have hAs : (alpA l).size = 256 := arrC_size _
      clear hA
      go_wp2_with (first
        | (refine wpList_load_row rfl _ _ rfl _ rfl _ (alpA l) _ _ hb Tryz.underlying74 rfl (by rw [hAs]; exact size_256) ?_)
        | (refine wpList_store_all rfl _ _ _ rfl w.heap.size _ _ (alpA l) rfl rfl h1 (by rw [hAs, arrC_size]) (by rw [hAs]; exact size_256) (arrC_one _) ?_; intro w9 hb9 hK9))
      exact bodyPost_ret (v := .agg (alpA l)) (results_cell_row rfl _ _ _ _ _ _ _ rfl hb9 Tryz.underlying74 rfl (by rw [hAs]; exact size_256)) rfl ⟨rfl, (hE0.below.trans (hK.below hE0.size (fun k hk e => by omega))).trans (hK9.below (Nat.le_trans hE0.size hK.size) (fun k hk e => by omega))⟩
set_option maxRecDepth 100000 in
set_option maxHeartbeats 800000 in
theorem c_refOf (A : Option Addr) (cap : Nat) (l : List BSet) (F : Nat → Prop) (w : World) (hS : Kref.S w F A l) (hl : l.length ≤ 1000000000) :
    Calls Tryz.prog 41 #[.slice A l.length cap] w fun e w' => e = .returned (.agg (alpA l)) ∧ Below w.heap.size w w' := by
  have hz := zero_alpC
  have hAs : (alpA l).size = 256 := arrC_size _
  go_enter Tryz.func41, Tryz.ntmps41
  go_wp2_with fail
  refine calls_name fun W0 hW0 => ?_
  have q0 : W0.heap[w.heap.size]? = some (.cells (arrC fun _ => 0) 81 (0, 0)) := by
    rw [← hW0]; exact World.alloc_heap_new w _
  have hE0 : Ext w W0 := by rw [← hW0]; exact (Ext.refl _).alloc _
  clear hW0 hz
  refine (c_refParts A cap l _ W0 (S_below hS hE0.below) hl).mono ?_
  rintro e w1 ⟨rfl, hB1⟩
  have q1 := (hB1.block _ (Array.getElem?_eq_some_iff.1 q0).1).trans q0
  have hBw := hE0.below.trans (hB1.mono hE0.size)
  clear q0
  go_wp2_with (refine wpList_store_all rfl _ _ _ rfl w.heap.size _ _ (alpA l) rfl rfl q1 (by rw [hAs, arrC_size]) (by rw [hAs]; exact size_alp) (arrC_one _) ?_; intro w9 hb9 hK9)
  exact bodyPost_ret (v := .agg (alpA l)) (results_cell_row rfl _ _ _ _ _ _ _ rfl hb9 Tryz.underlying81 rfl (by rw [hAs]; exact size_alp)) rfl ⟨rfl, hBw.trans (hK9.below hBw.size (fun k hk e => by omega))⟩
/-- The least bytes below a number. -/
def leastsTo (l : List BSet) (c : Nat) : List Nat := (List.range c).filter fun c => leastN l c == c
theorem leastsTo_succ (l : List BSet) (c : Nat) : leastsTo l (c + 1) = leastsTo l c ++ if leastN l c == c then [c] else [] := by
  unfold leastsTo; rw [List.range_succ, List.filter_append]; simp [List.filter_cons]
theorem leastsTo_len (l : List BSet) (c : Nat) : (leastsTo l c).length ≤ c := by
  unfold leastsTo
  exact Nat.le_trans (List.length_filter_le _ _) (by simp)
set_option maxRecDepth 100000 in
set_option maxHeartbeats 800000 in
theorem c_leasts (l : List BSet) (w : World) :
    Calls Tryz.prog 42 #[.agg (alpA l)] w fun e w' => ∃ v, e = .returned v ∧ OwnS Kint 3 w' w.heap.size (fun b => w.heap.size ≤ b) v (intsOf (leastsN l)) ∧ Below w.heap.size w w' := by
  go_enter Tryz.func42, Tryz.ntmps42
  go_wp2
  refine wp_name fun W0 hW0 => ?_
  have q0 : W0.heap[w.heap.size]? = some (.cells (alpA l) 81 (0, 0)) := by
    rw [← hW0]; exact World.alloc_heap_new w _
  have hE0 : Ext w W0 := by rw [← hW0]; exact (Ext.refl _).alloc _
  have hz0 : w.heap.size < W0.heap.size := by rw [← hW0]; simp
  clear hW0
  go_loopg [3, 4] 257 (fun gk v vc wr => ∃ c : Nat, vc = .int .i64 (c : Int) ∧ c ≤ 256 ∧ gk + c = 257 ∧ OwnS Kint 3 wr W0.heap.size (fun b => W0.heap.size ≤ b) v (intsOf (leastsTo l c)) ∧ Below W0.heap.size W0 wr)
  case atStart => exact ⟨0, rfl, by omega, rfl, OwnS.nil _ _ _ _ _, Below.refl _ _⟩
  case round =>
    obtain ⟨c, rfl, hc, hgk, hO, hB⟩ := hrel
    have HG := Lib.hid hgk
    obtain ⟨Av, kv, rfl, _, _, _⟩ := hO.reads
    by_cases hlt : c < 256
    · have hlt' : (c : Int) < 256 := by omega
      have hc0 : (0 : Int) ≤ c := by omega
      have hce := (cell_of_row wr w.heap.size c _ _ _ ((hB.block _ hz0).trans q0)).trans (arrC_at _ c hlt)
      have hsc := leastsTo_succ l c
      have hln := leastsTo_len l c
      have hsl : (intsOf (leastsTo l c)).length = (leastsTo l c).length := by simp
      have HSC := Lib.hid hsc
      have HO := Lib.hid hO
      clear hgk hsc hO
      by_cases he : leastN l c = c
      · have he' : ((leastN l c : Int) == c) = true := by simp [he]
        have hi : (if (leastN l c == c) = true then [c] else []) = [c] := by rw [if_pos (by simpa using he)]
        have HI := Lib.hid hi
        clear he hi
        go_wp2_with (at_builtin; refine own_append Kint wr W0.heap.size wr.heap.size rfl _ _ 36 3 (.int .i64 0) 8 rfl Tryz.underlying36 info_int rfl (by decide) (by decide) (.slice Av (intsOf (leastsTo l c)).length kv) (intsOf (leastsTo l c)) (c : Int) [.int .i64 (c : Int)] (fun b => W0.heap.size ≤ b) (by rfl) rfl rfl ⟨rfl, by constructor <;> omega⟩ HO.out (fun k hk => Nat.le_trans hB.size hk) hB.size (by omega) ?_; intro v9 w9 hO9 hM9 hv9)
        go_roundg (gk - 1)
        case measure => have := HG.out; omega
        case rel => exact ⟨c + 1, by go_num, by omega, by have := HG.out; omega, by rw [HSC.out, HI.out]; simpa [intsOf] using hO9, Mov.below hB hM9 hB.size (fun k hk => HO.out.1 k hk)⟩
      · have he' : ((leastN l c : Int) == c) = false := by simp; omega
        have hi : (if (leastN l c == c) = true then [c] else []) = [] := by rw [if_neg (by simpa using he)]
        have HI := Lib.hid hi
        clear he hi
        go_wp2
        go_roundg (gk - 1)
        case measure => have := HG.out; omega
        case rel => exact ⟨c + 1, by go_num, by omega, by have := HG.out; omega, by rw [HSC.out, HI.out, List.append_nil]; exact HO.out, hB⟩
    · obtain rfl : c = 256 := by omega
      clear hgk
      have HO := Lib.hid hO
      clear hO
      go_wp2
      go_ret
      exact ⟨_, rfl, (HO.out.lower hE0.size).mono fun b hb => Nat.le_trans hE0.size hb, hE0.below.trans (hB.mono hE0.size)⟩
end Go.Proofs
end
