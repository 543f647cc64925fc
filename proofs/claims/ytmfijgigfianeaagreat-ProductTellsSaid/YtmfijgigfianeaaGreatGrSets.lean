/- The contracts of package sets: Has, the operations on words, Or, And, Less, Not, All. The bytes of a set, one by one: the iterator's contract, and its callers Size, First, Bytes. sets.Compare. -/
import Derived.Test.YtmfijgigfianeaaGreatGrBase
import Derived.Test.YtmfijgigfianeaaGreatProg
section
set_option linter.unusedVariables false
set_option linter.unusedSimpArgs false
namespace Go.Proofs
open Go.RowKit Rp

theorem c_has (s : BSet) (c : Nat) (hc : c < 256) (w : World) :
    Calls Tryz.prog 89 #[setV s, .int .u8 (c : Int)] w fun e w' => e = .returned (.bool (s.getLsbD c)) ∧ Ext w w' := by
  have hx0 := setC_at s c hc
  have hx : [u64 (wd s 0), u64 (wd s 1), u64 (wd s 2), u64 (wd s 3)][c / 64]? = some (.int .u64 ((wd s (c / 64)).toNat : Int)) := hx0
  have h0 : (0 : Int) ≤ c := Int.natCast_nonneg _
  have h1 : (c : Int) < 256 := by omega
  clear hx0
  go_enter Tryz.func89, Tryz.ntmps89
  go_wp2
  go_ret
  refine ⟨?_, (Ext.refl _).alloc _⟩
  show Ending.returned (.bool _) = _
  rw [has_bit, ← has_wd]

/-- A function of two words. -/
structure WordFn (P : Program) (g : FuncId) (f : BitVec 64 → BitVec 64 → BitVec 64) : Prop where
  enters : ∀ args w, (callFunc g args).run P w = .ok (.enter g args) w
  calls : ∀ (x y : BitVec 64) (w : World), Calls P g #[u64 x, u64 y] w fun e w' => e = .returned (u64 (f x y)) ∧ w = w'
set_option maxRecDepth 100000 in
set_option maxHeartbeats 800000 in
theorem c_each (g : FuncId) (f : BitVec 64 → BitVec 64 → BitVec 64) (hf : WordFn Tryz.prog g f) (a0 a1 a2 a3 b0 b1 b2 b3 : BitVec 64) (w : World) :
    Calls Tryz.prog 91 #[.agg #[u64 a0, u64 a1, u64 a2, u64 a3], .agg #[u64 b0, u64 b1, u64 b2, u64 b3], .func (.func g) #[] #[]] w fun e w' => e = .returned (.agg #[u64 (f a0 b0), u64 (f a1 b1), u64 (f a2 b2), u64 (f a3 b3)]) ∧ Ext w w' := by
  have hg := hf.enters
  go_enter Tryz.func91, Tryz.ntmps91
  go_wp2
  refine wp_loop_rounds 5 ?_
  rw [rounds_succ]
  go_wp2
  go_region_held3 (fun w' => w'.cell? ⟨w.heap.size, 0, none⟩ = some (u64 a0) ∧ w'.cell? ⟨w.heap.size + 1, 0, none⟩ = some (u64 b0)) (first | go_keep | (refine ⟨?_, ?_⟩ <;> go_simp)) ((refine (hf.calls _ _ _).mono ?_; rintro e w' ⟨rfl, rfl⟩))
  go_wp2
  rw [rounds_succ]
  go_wp2
  go_region_held3 (fun w' => w'.cell? ⟨w.heap.size, 1, none⟩ = some (u64 a1) ∧ w'.cell? ⟨w.heap.size + 1, 1, none⟩ = some (u64 b1)) (first | go_keep | (refine ⟨?_, ?_⟩ <;> go_simp)) ((refine (hf.calls _ _ _).mono ?_; rintro e w' ⟨rfl, rfl⟩))
  go_wp2
  rw [rounds_succ]
  go_wp2
  go_region_held3 (fun w' => w'.cell? ⟨w.heap.size, 2, none⟩ = some (u64 a2) ∧ w'.cell? ⟨w.heap.size + 1, 2, none⟩ = some (u64 b2)) (first | go_keep | (refine ⟨?_, ?_⟩ <;> go_simp)) ((refine (hf.calls _ _ _).mono ?_; rintro e w' ⟨rfl, rfl⟩))
  go_wp2
  rw [rounds_succ]
  go_wp2
  go_region_held3 (fun w' => w'.cell? ⟨w.heap.size, 3, none⟩ = some (u64 a3) ∧ w'.cell? ⟨w.heap.size + 1, 3, none⟩ = some (u64 b3)) (first | go_keep | (refine ⟨?_, ?_⟩ <;> go_simp)) ((refine (hf.calls _ _ _).mono ?_; rintro e w' ⟨rfl, rfl⟩))
  go_wp2
  rw [rounds_succ]
  go_wp2
  refine bodyPost_ret (v := .agg #[u64 (f a0 b0), u64 (f a1 b1), u64 (f a2 b2), u64 (f a3 b3)]) (by simp [results, Tryz.results91, go_sem]) rfl ⟨rfl, ?_⟩
  exact ((((((((Ext.refl _).alloc _).alloc _).alloc _).alloc _).drew).drew).drew).drew

theorem c_word_or : WordFn Tryz.prog 109 (fun x y => x ||| y) where
  enters := fun args w => by kernel_rfl
  calls := fun x y w => by
    go_enter Tryz.func109, Tryz.ntmps109
    go_wp2
    go_ret
    refine ⟨?_, rfl⟩
    show Ending.returned (.int .u64 _) = _
    rw [bits_or]
theorem c_word_and : WordFn Tryz.prog 92 (fun x y => x &&& y) where
  enters := fun args w => by kernel_rfl
  calls := fun x y w => by
    go_enter Tryz.func92, Tryz.ntmps92
    go_wp2
    go_ret
    refine ⟨?_, rfl⟩
    show Ending.returned (.int .u64 _) = _
    rw [bits_and]
theorem c_word_andNot : WordFn Tryz.prog 93 (fun x y => x &&& ~~~ y) where
  enters := fun args w => by kernel_rfl
  calls := fun x y w => by
    go_enter Tryz.func93, Tryz.ntmps93
    go_wp2
    go_ret
    refine ⟨?_, rfl⟩
    show Ending.returned (.int .u64 _) = _
    rw [bits_andNot]
theorem c_word_not : WordFn Tryz.prog 98 (fun x _ => ~~~ x) where
  enters := fun args w => by kernel_rfl
  calls := fun x y w => by
    go_enter Tryz.func98, Tryz.ntmps98
    go_wp2
    go_ret
    refine ⟨?_, rfl⟩
    show Ending.returned (.int .u64 _) = _
    exact congrArg _ (congrArg _ (bits_not x))

theorem c_each_set (g : FuncId) (f : BitVec 64 → BitVec 64 → BitVec 64) (hf : WordFn Tryz.prog g f) (a b s : BSet) (h0 : wd s 0 = f (wd a 0) (wd b 0)) (h1 : wd s 1 = f (wd a 1) (wd b 1)) (h2 : wd s 2 = f (wd a 2) (wd b 2)) (h3 : wd s 3 = f (wd a 3) (wd b 3)) (w : World) :
    Calls Tryz.prog 91 #[setV a, setV b, .func (.func g) #[] #[]] w fun e w' => e = .returned (setV s) ∧ Ext w w' := by
  unfold setV setC; rw [h0, h1, h2, h3]
  exact c_each g f hf _ _ _ _ _ _ _ _ w
theorem c_or (a b : BSet) (w : World) :
    Calls Tryz.prog 96 #[setV a, setV b] w fun e w' => e = .returned (setV (a ||| b)) ∧ Ext w w' := by
  have hv := c_each_set _ _ c_word_or a b (a ||| b) (by simp [wd_or, wd_and, wd_not]) (by simp [wd_or, wd_and, wd_not]) (by simp [wd_or, wd_and, wd_not]) (by simp [wd_or, wd_and, wd_not])
  generalize a ||| b = s at *
  go_enter Tryz.func96, Tryz.ntmps96
  go_wp2_with (go_at_call 91; refine (hv _).mono ?_; rintro e w' ⟨rfl, hb⟩; obtain ⟨hc, hf⟩ := ecell hb; have hz : w.heap.size + 2 < w'.heap.size := by have := hb.size; simp at this; omega)
  refine bodyPost_ret (v := setV s) (by simp [results, Tryz.results96, go_sem, hc, hz]) rfl ⟨rfl, ?_⟩
  exact ((((((((Ext.refl _).alloc _).alloc _).alloc _).trans hb).setCell (by simp <;> omega) _).setCell (by simp <;> omega) _).setCell (by simp <;> omega) _).setCell (by simp <;> omega) _
theorem c_and (a b : BSet) (w : World) :
    Calls Tryz.prog 79 #[setV a, setV b] w fun e w' => e = .returned (setV (a &&& b)) ∧ Ext w w' := by
  have hv := c_each_set _ _ c_word_and a b (a &&& b) (by simp [wd_or, wd_and, wd_not]) (by simp [wd_or, wd_and, wd_not]) (by simp [wd_or, wd_and, wd_not]) (by simp [wd_or, wd_and, wd_not])
  generalize a &&& b = s at *
  go_enter Tryz.func79, Tryz.ntmps79
  go_wp2_with (go_at_call 91; refine (hv _).mono ?_; rintro e w' ⟨rfl, hb⟩; obtain ⟨hc, hf⟩ := ecell hb; have hz : w.heap.size + 2 < w'.heap.size := by have := hb.size; simp at this; omega)
  refine bodyPost_ret (v := setV s) (by simp [results, Tryz.results79, go_sem, hc, hz]) rfl ⟨rfl, ?_⟩
  exact ((((((((Ext.refl _).alloc _).alloc _).alloc _).trans hb).setCell (by simp <;> omega) _).setCell (by simp <;> omega) _).setCell (by simp <;> omega) _).setCell (by simp <;> omega) _
theorem c_andNot (a b : BSet) (w : World) :
    Calls Tryz.prog 80 #[setV a, setV b] w fun e w' => e = .returned (setV (a &&& ~~~ b)) ∧ Ext w w' := by
  have hv := c_each_set _ _ c_word_andNot a b (a &&& ~~~ b) (by simp [wd_or, wd_and, wd_not]) (by simp [wd_or, wd_and, wd_not]) (by simp [wd_or, wd_and, wd_not]) (by simp [wd_or, wd_and, wd_not])
  generalize a &&& ~~~ b = s at *
  go_enter Tryz.func80, Tryz.ntmps80
  go_wp2_with (go_at_call 91; refine (hv _).mono ?_; rintro e w' ⟨rfl, hb⟩; obtain ⟨hc, hf⟩ := ecell hb; have hz : w.heap.size + 2 < w'.heap.size := by have := hb.size; simp at this; omega)
  refine bodyPost_ret (v := setV s) (by simp [results, Tryz.results80, go_sem, hc, hz]) rfl ⟨rfl, ?_⟩
  exact ((((((((Ext.refl _).alloc _).alloc _).alloc _).trans hb).setCell (by simp <;> omega) _).setCell (by simp <;> omega) _).setCell (by simp <;> omega) _).setCell (by simp <;> omega) _
theorem c_not (a : BSet) (w : World) :
    Calls Tryz.prog 90 #[setV a] w fun e w' => e = .returned (setV (~~~ a)) ∧ Ext w w' := by
  have hv := c_each_set _ _ c_word_not a a (~~~ a) (by simp [wd_not]) (by simp [wd_not]) (by simp [wd_not]) (by simp [wd_not])
  generalize ~~~ a = s at *
  go_enter Tryz.func90, Tryz.ntmps90
  go_wp2_with (go_at_call 91; refine (hv _).mono ?_; rintro e w' ⟨rfl, hb⟩; obtain ⟨hc, hf⟩ := ecell hb; have hz : w.heap.size + 1 < w'.heap.size := by have := hb.size; simp at this; omega)
  refine bodyPost_ret (v := setV s) (by simp [results, Tryz.results90, go_sem, hc, hz]) rfl ⟨rfl, ?_⟩
  exact (((((((Ext.refl _).alloc _).alloc _).trans hb).setCell (by simp <;> omega) _).setCell (by simp <;> omega) _).setCell (by simp <;> omega) _).setCell (by simp <;> omega) _
theorem setV_zero : setV 0#256 = .agg #[.int .u64 0, .int .u64 0, .int .u64 0, .int .u64 0] := by simp [setV, setC, u64, wd_zero]
theorem c_all (w : World) :
    Calls Tryz.prog 78 #[] w fun e w' => e = .returned (setV (BitVec.allOnes 256)) ∧ Ext w w' := by
  have hv := c_not 0#256
  rw [show ~~~ 0#256 = BitVec.allOnes 256 by decide, setV_zero] at hv
  generalize BitVec.allOnes 256 = s at *
  go_enter Tryz.func78, Tryz.ntmps78
  go_wp2_with (go_at_call 90; refine (hv _).mono ?_; rintro e w' ⟨rfl, hb⟩; obtain ⟨hc, hf⟩ := ecell hb; have hz : w.heap.size < w'.heap.size := by have := hb.size; simp at this; omega)
  refine bodyPost_ret (v := setV s) (by simp [results, Tryz.results78, go_sem, hc, hz]) rfl ⟨rfl, ?_⟩
  exact ((((((Ext.refl _).alloc _).trans hb).setCell (by simp <;> omega) _).setCell (by simp <;> omega) _).setCell (by simp <;> omega) _).setCell (by simp <;> omega) _
end Go.Proofs
end

section
set_option linter.unusedVariables false
set_option linter.unusedSimpArgs false
namespace Rp
def bytesTo (s : BSet) (k : Nat) : List UInt8 := ((List.range k).filter fun c => s.getLsbD c).map UInt8.ofNat
def bytesL (s : BSet) : List UInt8 := bytesTo s 256
theorem bytesTo_succ (s : BSet) (k : Nat) : bytesTo s (k + 1) = bytesTo s k ++ if s.getLsbD k then [UInt8.ofNat k] else [] := by
  unfold bytesTo; rw [List.range_succ, List.filter_append, List.map_append]; congr 1
  by_cases h : s.getLsbD k <;> simp [h]
theorem bytesTo_prefix (s : BSet) (j k : Nat) (h : j ≤ k) : bytesTo s j <+: bytesTo s k := by
  obtain ⟨d, rfl⟩ := Nat.exists_eq_add_of_le h
  clear h
  induction d with
  | zero => exact List.prefix_refl _
  | succ d ih => rw [← Nat.add_assoc, bytesTo_succ]; exact ih.trans (List.prefix_append _ _)
theorem bytesTo_length (s : BSet) (k : Nat) : (bytesTo s k).length ≤ k := by
  unfold bytesTo; rw [List.length_map]; exact Nat.le_trans (List.length_filter_le _ _) (by simp)
end Rp
namespace Go.Proofs
open Go.RowKit Go.Shelf Rp
attribute [local go_sem] Oper.semAt_some

/-- Block b lies as it lay. -/
def KeepB (b : Nat) (W W' : World) : Prop := W.heap.size ≤ W'.heap.size ∧ W'.heap[b]? = W.heap[b]?


set_option maxRecDepth 100000 in
set_option maxHeartbeats 400000 in
theorem all1_in (n : Nat) (hn : 1 ≤ n) (l Bs : Nat) (s : BSet) (J Jx : List UInt8 → World → Prop) (W : World)
    (hJ : ∀ s A A', J s A → Ext A A' → J s A') (hJx : ∀ s A A', Jx s A → Ext A A' → Jx s A')
    (hY : ∀ pre x W1, J pre W1 → pre.length < 256 → YieldAt Fence.wide (n - 1) Tryz.prog l #[byteV x] W1 fun e W' =>
      (e = .returned (.bool true) ∧ J (pre ++ [x]) W' ∧ KeepB Bs W1 W') ∨ (e = .returned (.bool false) ∧ Jx (pre ++ [x]) W'))
    (hB : W.heap[Bs]? = some (.cells (setC s) 33 (0, 0))) (h0 : J [] W) :
    CallsIn Fence.wide n Tryz.prog 88 #[.func (.yield l) #[] #[], .pointer (some ⟨Bs, 0, none⟩)] W fun e W' => (∃ v, e = .returned v) ∧
      ((∃ ys, ys = bytesL s ∧ J ys W') ∨ (∃ pre, pre <+: bytesL s ∧ Jx pre W')) := by
  refine callsIn_of_wp Tryz.func88 rfl trivial ?_ rfl
  simp only [Tryz.ntmps88, List.size_toArray, List.length_cons, List.length_nil, Nat.reduceAdd, Nat.reduceSub, Array.replicate_succ, Array.replicate_zero, List.push_toArray, List.append_toArray, List.nil_append, List.cons_append]
  gi_wp2
  gi_loopw [4] (fun p wr => ∃ k : Nat, k ≤ 256 ∧ p = .int .i64 k ∧ J (bytesTo s k) wr ∧ wr.heap[Bs]? = some (.cells (setC s) 33 (0, 0)) ∧ W.heap.size ≤ wr.heap.size) (fun p _ => 256 - (intOf p).toNat)
  case atStart => exact ⟨0, by omega, rfl, h0, hB, Nat.le_refl _⟩
  case round =>
    obtain ⟨k, hk, rfl, hJs, hBr, hsz⟩ := hrel
    by_cases hlt : k < 256
    · have hload := cell_of_row wr Bs
      have hc0 := cell_of_row wr Bs 0 _ _ _ hBr
      have hc1 := cell_of_row wr Bs 1 _ _ _ hBr
      have hc2 := cell_of_row wr Bs 2 _ _ _ hBr
      have hc3 := cell_of_row wr Bs 3 _ _ _ hBr
      simp at hc0 hc1 hc2 hc3
      have hk0 : (0 : Int) ≤ (k : Int) := Int.natCast_nonneg _
      have hk1 : (k : Int) < 256 := by omega
      have HB := Lib.hid hBr
      clear hload hBr hB
      have hcall := c_has s k hlt wr
      have hJ1 : ∀ w', Ext wr w' → J (bytesTo s k) w' := fun w' hb => hJ _ _ _ hJs hb
      have hsucc := bytesTo_succ s k
      cases hbit : s.getLsbD k with
      | true =>
        rw [hbit] at hcall hsucc
        have hYk : ∀ w', Ext wr w' → _ := fun w' hb => hY (bytesTo s k) (UInt8.ofNat k) w' (hJ1 w' hb) (by have := bytesTo_length s k; omega)
        have hx : byteV (UInt8.ofNat k) = .int .u8 (k : Int) := by simp [byteV, Nat.mod_eq_of_lt hlt]
        rw [hx] at hYk
        have HS := Lib.hid hsucc
        have HX := Lib.hid hx
        clear hsucc hx hbit
        gi_wp2_with (refine ⟨trivial, ?_⟩; gi_at_call 89; refine (callsIn_wide.2 hcall).mono ?_; rintro e w' ⟨rfl, hb⟩; obtain ⟨fn, tmps, assign, body, hy, hR⟩ := hYk w' hb)
        have hb8 := hb.below.block Bs (Array.getElem?_eq_some_iff.1 HB.out).1
        refine hR.mono ?_
        rintro e W3 (⟨rfl, hJ3, hk3⟩ | ⟨rfl, hJx3⟩)
        · gi_wp2
          go_roundw
          case rel => exact ⟨k + 1, by omega, by go_num, by rw [HS.out]; simpa using hJ3, hk3.2.trans (hb8.trans HB.out), by have := hk3.1; have := hb.size; omega⟩
          case measure => simp [intOf]; omega
        · gi_wp2
          refine bodyPost_ret (results_none rfl _ _ _) rfl ?_
          refine ⟨⟨_, rfl⟩, .inr ⟨bytesTo s k ++ [UInt8.ofNat k], ?_, hJx3⟩⟩
          have := bytesTo_prefix s (k + 1) 256 (by omega)
          rw [HS.out] at this; show _ <+: bytesTo s 256; simpa using this
      | false =>
        rw [hbit] at hcall hsucc
        have HS := Lib.hid hsucc
        clear hsucc hbit
        gi_wp2_with (refine ⟨trivial, ?_⟩; gi_at_call 89; refine (callsIn_wide.2 hcall).mono ?_; rintro e w' ⟨rfl, hb⟩)
        refine ⟨fun _ h => (by cases h), ?_⟩
        gi_wp2
        have hb8 := hb.below.block Bs (Array.getElem?_eq_some_iff.1 HB.out).1
        go_roundw
        case rel => exact ⟨k + 1, by omega, by go_num, by rw [HS.out]; simpa using hJ1 _ hb, hb8.trans HB.out, by have := hb.size; omega⟩
        case measure => simp [intOf]; omega
    · obtain rfl : k = 256 := by omega
      gi_wp2
      go_end0
      exact ⟨⟨_, rfl⟩, .inl ⟨_, rfl, hJs⟩⟩
theorem all_stops (n : Nat) (hn : 1 ≤ n) (Bs : Nat) (s : BSet) (w : World) (hB : w.heap[Bs]? = some (.cells (setC s) 33 (0, 0))) :
    SeqD n Tryz.prog 88 #[.pointer (some ⟨Bs, 0, none⟩)] (fun x => #[byteV x]) (KeepB Bs) (fun xs => xs = bytesL s) (fun pre => pre <+: bytesL s) 256 w :=
  fun l J Jx W hW hJ hJx hY h0 => all1_in n hn l Bs s J Jx W hJ hJx hY ((hW.block Bs (Array.getElem?_eq_some_iff.1 hB).1).trans hB) h0
theorem c_setsAllSeq (s : BSet) (w : World) : Calls Tryz.prog 76 #[setV s] w fun e w' => e = .returned (.func (.func 88) #[] #[.pointer (some ⟨w.heap.size, 0, none⟩)]) ∧ w' = w.alloc (.cells (setC s) 33) := by
  go_enter Tryz.func76, Tryz.ntmps76
  go_wp2
  go_ret
  exact ⟨rfl, rfl⟩
theorem enters_all1 : ∀ args w, (callFunc 88 args).run Tryz.prog w = .ok (.enter 88 args) w := fun args w => by kernel_rfl
theorem keepB_t {b : Nat} : ∀ {A B C : World}, KeepB b A B → KeepB b B C → KeepB b A C := fun h k => ⟨Nat.le_trans h.1 k.1, k.2.trans h.2⟩
theorem keepB_b {b : Nat} {w : World} (hb : b < w.heap.size) : ∀ (W : World) (l : Nat) (o o' : Obj), w.heap.size ≤ l → W.heap[l]? = some o → o.isCells = false → o.isWalk = false → KeepB b W (W.putObj l o') :=
  fun W l o o' hl _ _ _ => ⟨by simp, World.putObj_heap_other (by omega)⟩

set_option maxHeartbeats 400000 in
theorem c_size (s : BSet) (w : World) : Calls Tryz.prog 55 #[setV s] w fun e w' => e = .returned (.int .i64 ((bytesL s).length : Int)) ∧ Ext w w' := by
  refine (callsIn_wide (n := 9)).1 ?_
  refine callsIn_of_wp_marks Tryz.func55 rfl trivial ?_ rfl
  simp only [Tryz.ntmps55, List.size_toArray, List.length_cons, List.length_nil, Nat.reduceAdd, Nat.reduceSub, Array.replicate_succ, Array.replicate_zero, List.push_toArray, List.append_toArray, List.nil_append, List.cons_append]
  gi_wp2_with (refine ⟨trivial, ?_⟩; gi_at_call 76; refine (callsIn_wide.2 (c_setsAllSeq s _)).mono ?_; rintro e w' ⟨rfl, rfl⟩)
  have hBs : (((w.alloc (.cells (setC s) 33)).alloc (.cells #[.int .i64 0] 3)).alloc (.cells (setC s) 33)).heap[w.heap.size + 1 + 1]? = some (.cells (setC s) 33 (0, 0)) := by
    have := World.alloc_heap_new ((w.alloc (.cells (setC s) 33)).alloc (.cells #[.int .i64 0] 3)) (.cells (setC s) 33)
    simpa using this
  have hn0 : (((w.alloc (.cells (setC s) 33)).alloc (.cells #[.int .i64 0] 3)).alloc (.cells (setC s) 33)).cell? ⟨w.heap.size + 1, 0, none⟩ = some (.int .i64 0) := by go_simp
  have hf0 : (((w.alloc (.cells (setC s) 33)).alloc (.cells #[.int .i64 0] 3)).alloc (.cells (setC s) 33)).frozen? ⟨w.heap.size + 1, 0, none⟩ = false := by go_simp
  have hb0 : Ext w (((w.alloc (.cells (setC s) 33)).alloc (.cells #[.int .i64 0] 3)).alloc (.cells (setC s) 33)) := (((Ext.refl _).alloc _).alloc _).alloc _
  have hsz : (((w.alloc (.cells (setC s) 33)).alloc (.cells #[.int .i64 0] 3)).alloc (.cells (setC s) 33)).heap.size = w.heap.size + 3 := by simp
  obtain ⟨W0, hW0⟩ : ∃ W0, ((w.alloc (.cells (setC s) 33)).alloc (.cells #[.int .i64 0] 3)).alloc (.cells (setC s) 33) = W0 := ⟨_, rfl⟩
  rw [hW0] at hBs hn0 hf0 hb0 hsz ⊢
  clear hW0
  refine wpIn_rangeE Ext id (fun h => h.block) (by omega) (gf := 88) (lb := #[.pointer (some ⟨w.heap.size + 1 + 1, 0, none⟩)]) rfl enters_all1
    (all_stops _ (by omega) (w.heap.size + 1 + 1) s W0 hBs) keepB_t (keepB_b (by omega)) (Below.refl _ _) (fun _ => rfl)
    (fun pre W => (W.cell? ⟨w.heap.size + 1, 0, none⟩ = some (.int .i64 (pre.length : Int)) ∧ W.frozen? ⟨w.heap.size + 1, 0, none⟩ = false) ∧ Ext w W)
    (fun _ _ _ => False)
    (StableE.and (StableE.toExt (Stable.of_own (fun s A B row hs hg hr => ⟨cell_kept hs.1 hg hr, (frozen_kept hs.1 hg hr).trans hs.2⟩))) (stable_ext (by omega)))
    (fun _ => stable_const _)
    ⟨⟨hn0, hf0⟩, hb0⟩
    (fun x => { tmps := #[setV s, .pointer (some ⟨w.heap.size, 0, none⟩), .int .i64 0, .pointer (some ⟨w.heap.size + 1, 0, none⟩), setV s, .func (.func 88) #[] #[.pointer (some ⟨w.heap.size + 1 + 1, 0, none⟩)], byteV x, undef, undef, undef], defers := [] }) ?assign ?body ?done ?stop
  case assign =>
    intro l x W K hK
    gi_wp2
    simpa using hK
  case body =>
    rintro l pre x W ⟨⟨hc, hf⟩, hb⟩ hlt
    gi_wp2
    refine ⟨(KeepsOthers.setCell _ _ _).from _, ⟨by simp, Below.heap_setCell _ _ _ _ (by simp)⟩, ⟨?_, by rw [World.frozen?_setCell]; exact hf⟩, hb.setCell (by simp) _⟩
    rw [List.length_append, List.length_singleton, Int.natCast_add]
    exact World.cell?_setCell_same' _ _ _ (by rw [hc]; rfl)
  case done =>
    rintro D ys W hD rfl ⟨⟨hc, hf⟩, hb⟩ hK
    gi_wp2
    refine ⟨by simp, .inl ⟨_, _, rfl, run_takeDeferred hK, ?_⟩⟩
    exact ⟨_, results_tmp rfl _ _ _, rfl, hb.put (by omega) _⟩
  case stop =>
    rintro D c pre W _ _ h _
    exact h.elim

/-- The least byte, and whether there is one. -/
def firstB (s : BSet) : UInt8 × Bool := match bytesL s with | [] => (0, false) | x :: _ => (x, true)
set_option maxHeartbeats 400000 in
theorem c_first (s : BSet) (w : World) : Calls Tryz.prog 53 #[setV s] w fun e w' => e = .returned (.tuple #[byteV (firstB s).1, .bool (firstB s).2]) ∧ Ext w w' := by
  refine (callsIn_wide (n := 9)).1 ?_
  refine callsIn_of_wp_marks Tryz.func53 rfl trivial ?_ rfl
  simp only [Tryz.ntmps53, List.size_toArray, List.length_cons, List.length_nil, Nat.reduceAdd, Nat.reduceSub, Array.replicate_succ, Array.replicate_zero, List.push_toArray, List.append_toArray, List.nil_append, List.cons_append]
  gi_wp2_with (refine ⟨trivial, ?_⟩; gi_at_call 76; refine (callsIn_wide.2 (c_setsAllSeq s _)).mono ?_; rintro e w' ⟨rfl, rfl⟩)
  have hBs : ((((w.alloc (.cells (setC s) 33)).alloc (.cells #[.int .u8 0] 5)).alloc (.cells #[.bool false] 4)).alloc (.cells (setC s) 33)).heap[w.heap.size + 1 + 1 + 1]? = some (.cells (setC s) 33 (0, 0)) := by
    have := World.alloc_heap_new (((w.alloc (.cells (setC s) 33)).alloc (.cells #[.int .u8 0] 5)).alloc (.cells #[.bool false] 4)) (.cells (setC s) 33)
    simpa using this
  have hn0 : ((((w.alloc (.cells (setC s) 33)).alloc (.cells #[.int .u8 0] 5)).alloc (.cells #[.bool false] 4)).alloc (.cells (setC s) 33)).cell? ⟨w.heap.size + 1, 0, none⟩ = some (.int .u8 0) := by go_simp
  have hf0 : ((((w.alloc (.cells (setC s) 33)).alloc (.cells #[.int .u8 0] 5)).alloc (.cells #[.bool false] 4)).alloc (.cells (setC s) 33)).frozen? ⟨w.heap.size + 1, 0, none⟩ = false := by go_simp
  have hn1 : ((((w.alloc (.cells (setC s) 33)).alloc (.cells #[.int .u8 0] 5)).alloc (.cells #[.bool false] 4)).alloc (.cells (setC s) 33)).cell? ⟨w.heap.size + 1 + 1, 0, none⟩ = some (.bool false) := by go_simp
  have hf1 : ((((w.alloc (.cells (setC s) 33)).alloc (.cells #[.int .u8 0] 5)).alloc (.cells #[.bool false] 4)).alloc (.cells (setC s) 33)).frozen? ⟨w.heap.size + 1 + 1, 0, none⟩ = false := by go_simp
  have hb0 : Ext w ((((w.alloc (.cells (setC s) 33)).alloc (.cells #[.int .u8 0] 5)).alloc (.cells #[.bool false] 4)).alloc (.cells (setC s) 33)) := ((((Ext.refl _).alloc _).alloc _).alloc _).alloc _
  have hsz : ((((w.alloc (.cells (setC s) 33)).alloc (.cells #[.int .u8 0] 5)).alloc (.cells #[.bool false] 4)).alloc (.cells (setC s) 33)).heap.size = w.heap.size + 4 := by simp
  obtain ⟨W0, hW0⟩ : ∃ W0, (((w.alloc (.cells (setC s) 33)).alloc (.cells #[.int .u8 0] 5)).alloc (.cells #[.bool false] 4)).alloc (.cells (setC s) 33) = W0 := ⟨_, rfl⟩
  rw [hW0] at hBs hn0 hf0 hn1 hf1 hb0 hsz ⊢
  clear hW0
  refine wpIn_rangeE Ext id (fun h => h.block) (by omega) (gf := 88) (lb := #[.pointer (some ⟨w.heap.size + 1 + 1 + 1, 0, none⟩)]) rfl enters_all1
    (all_stops _ (by omega) (w.heap.size + 1 + 1 + 1) s W0 hBs) keepB_t (keepB_b (by omega)) (Below.refl _ _) (fun _ => rfl)
    (fun pre W => (pre = [] ∧ (W.cell? ⟨w.heap.size + 1, 0, none⟩ = some (.int .u8 0) ∧ W.frozen? ⟨w.heap.size + 1, 0, none⟩ = false) ∧ (W.cell? ⟨w.heap.size + 1 + 1, 0, none⟩ = some (.bool false) ∧ W.frozen? ⟨w.heap.size + 1 + 1, 0, none⟩ = false)) ∧ Ext w W)
    (fun c pre W => (c = .ret ∧ ∃ x, pre = [x] ∧ (W.cell? ⟨w.heap.size + 1, 0, none⟩ = some (byteV x)) ∧ (W.cell? ⟨w.heap.size + 1 + 1, 0, none⟩ = some (.bool true))) ∧ Ext w W)
    (StableE.and (StableE.toExt (Stable.of_own (fun s A B row hs hg hr => ⟨hs.1, ⟨cell_kept hs.2.1.1 hg hr, (frozen_kept hs.2.1.1 hg hr).trans hs.2.1.2⟩, ⟨cell_kept hs.2.2.1 hg hr, (frozen_kept hs.2.2.1 hg hr).trans hs.2.2.2⟩⟩))) (stable_ext (by omega)))
    (fun c => StableE.and (StableE.toExt (Stable.of_own (fun s A B row hs hg hr => ⟨hs.1, hs.2.choose, hs.2.choose_spec.1, cell_kept hs.2.choose_spec.2.1 hg hr, cell_kept hs.2.choose_spec.2.2 hg hr⟩))) (stable_ext (by omega)))
    ⟨⟨rfl, ⟨hn0, hf0⟩, ⟨hn1, hf1⟩⟩, hb0⟩
    (fun x => { tmps := #[setV s, .pointer (some ⟨w.heap.size, 0, none⟩), .pointer (some ⟨w.heap.size + 1, 0, none⟩), .pointer (some ⟨w.heap.size + 1 + 1, 0, none⟩), byteV x, setV s, .func (.func 88) #[] #[.pointer (some ⟨w.heap.size + 1 + 1 + 1, 0, none⟩)], byteV x, undef], defers := [] }) ?assign ?body ?done ?stop
  case assign =>
    intro l x W K hK
    gi_wp2
    simpa using hK
  case body =>
    rintro l pre x W ⟨⟨rfl, ⟨hc, hf⟩, ⟨hc1, hf1⟩⟩, hb⟩ hlt
    gi_wp2
    refine ⟨((KeepsOthers.setCell _ _ _).trans (KeepsOthers.setCell _ _ _)).from _, ⟨rfl, x, rfl, ?_, ?_⟩, (hb.setCell (by simp) _).setCell (by simp <;> omega) _⟩
    · go_simp
    · go_simp
  case done =>
    rintro D ys W hD rfl ⟨⟨he, ⟨hc, hf⟩, ⟨hc1, hf1⟩⟩, hb⟩ hK
    have hfb : firstB s = (0, false) := by unfold firstB; rw [he]
    have HF := Lib.hid hfb
    clear hfb
    gi_wp2
    have e0 : ((W.setCell ⟨w.heap.size + 1, 0, none⟩ (.int .u8 0)).setCell ⟨w.heap.size + 1 + 1, 0, none⟩ (.bool false)).cell? ⟨w.heap.size + 1, 0, none⟩ = some (.int .u8 0) := by go_simp
    have e1 : ((W.setCell ⟨w.heap.size + 1, 0, none⟩ (.int .u8 0)).setCell ⟨w.heap.size + 1 + 1, 0, none⟩ (.bool false)).cell? ⟨w.heap.size + 1 + 1, 0, none⟩ = some (.bool false) := by go_simp
    have hK1 := ((KeepsOthers.setCell W ⟨w.heap.size + 1, 0, none⟩ (.int .u8 0)).trans (KeepsOthers.setCell _ ⟨w.heap.size + 1 + 1, 0, none⟩ (.bool false))).same D _ hK rfl
    have hb1 := (hb.setCell (p := ⟨w.heap.size + 1, 0, none⟩) (by simp) (.int .u8 0)).setCell (p := ⟨w.heap.size + 1 + 1, 0, none⟩) (by simp <;> omega) (.bool false)
    generalize (W.setCell ⟨w.heap.size + 1, 0, none⟩ (.int .u8 0)).setCell ⟨w.heap.size + 1 + 1, 0, none⟩ (.bool false) = W1 at e0 e1 hK1 hb1 ⊢
    have h0 := cell_kept e0 (grownBy_putObj' _ D (.deferred none)) (fun r e => by cases e; exact ⟨_, hK1, rfl⟩)
    have h1 := cell_kept e1 (grownBy_putObj' _ D (.deferred none)) (fun r e => by cases e; exact ⟨_, hK1, rfl⟩)
    refine ⟨by simp, .inl ⟨_, _, rfl, run_takeDeferred hK1, ?_⟩⟩
    refine ⟨.tuple #[.int .u8 0, .bool false], by simp [results, Tryz.results53, go_sem, h0, h1], ?_, hb1.put (by omega) _⟩
    rw [HF.out]; rfl
  case stop =>
    rintro D c pre W hD hp ⟨⟨rfl, x, rfl, hc, hc1⟩, hb⟩ hK
    have hfb : firstB s = (x, true) := by
      obtain ⟨t, ht⟩ := hp
      unfold firstB; rw [← ht]; rfl
    have HF := Lib.hid hfb
    clear hfb
    gi_wp2
    have h0 := cell_kept hc (grownBy_putObj' _ D (.deferred none)) (fun r e => by cases e; exact ⟨_, hK, rfl⟩)
    have h1 := cell_kept hc1 (grownBy_putObj' _ D (.deferred none)) (fun r e => by cases e; exact ⟨_, hK, rfl⟩)
    refine ⟨by simp, .inl ⟨_, _, rfl, run_takeDeferred hK, ?_⟩⟩
    refine ⟨.tuple #[byteV x, .bool true], by simp [results, Tryz.results53, go_sem, h0, h1], ?_, hb.put (by omega) _⟩
    rw [HF.out]

theorem info_u8 : (Tryz.prog.info? 5).map (fun i => (i.zero, i.size, i.bytes)) = some (some (.int .u8 0), 1, 1) := by kernel_rfl
set_option maxHeartbeats 400000 in
theorem c_appendSeqBytes (s : BSet) (Bs : Nat) (w : World) (hB : w.heap[Bs]? = some (.cells (setC s) 33 (0, 0))) :
    Calls Tryz.prog 119 #[.slice none 0 0, .func (.func 88) #[] #[.pointer (some ⟨Bs, 0, none⟩)]] w fun e W' => ∃ v, e = .returned v ∧ W'.ownsRow w.heap.size 5 1 v (bytesL s).length ((bytesL s).map byteV) ∧ Below w.heap.size w W' := by
  obtain ⟨i0, hi, hz0, hz1, hz2⟩ := info_parts info_u8
  have hBl := (Array.getElem?_eq_some_iff.1 hB).1
  refine (callsIn_wide (n := 9)).1 ?_
  refine callsIn_of_wp_marks Tryz.func119 rfl trivial ?_ rfl
  simp only [Tryz.ntmps119, List.size_toArray, List.length_cons, List.length_nil, Nat.reduceAdd, Nat.reduceSub, Array.replicate_succ, Array.replicate_zero, List.push_toArray, List.append_toArray, List.nil_append, List.cons_append]
  gi_wp2
  have bO := Boxed.new w 47 (.slice none 0 0)
  have hB0 : Below w.heap.size w (w.alloc (.cells #[.slice none 0 0] 47)) := (Below.refl _ w).alloc (Nat.le_refl _) _
  refine wpIn_rangeE Ext id (fun h => h.block) (by omega) (gf := 88) (lb := #[.pointer (some ⟨Bs, 0, none⟩)]) rfl enters_all1
    (all_stops _ (by omega) Bs s _ ((hB0.block Bs hBl).trans hB)) keepB_t (keepB_b (by simp; omega)) (Below.refl _ _) (fun _ => rfl)
    (fun pre W => (∃ v, Boxed W w.heap.size 47 v ∧ W.ownsRow w.heap.size 5 1 v pre.length (pre.map byteV) ∧ True) ∧ Below w.heap.size w W)
    (fun _ _ _ => False)
    (StableE.toExt (StableE.and (Stable.of_own (holdsRow_own w.heap.size w.heap.size 47 5 1 (fun pre : List UInt8 => pre.length) (fun pre : List UInt8 => pre.map byteV) (fun _ _ => True))) (stable_below (by simp))))
    (fun _ => stable_const _)
    ⟨⟨_, bO, World.ownsRow_nil _ _ _ _, trivial⟩, hB0⟩
    (fun x => { tmps := #[.slice none 0 0, .func (.func 88) #[] #[.pointer (some ⟨Bs, 0, none⟩)], .pointer (some ⟨w.heap.size, 0, none⟩), undef, .slice none 0 0, byteV x, .func (.func 88) #[] #[.pointer (some ⟨Bs, 0, none⟩)], byteV x, undef, undef, undef, undef, undef], defers := [] }) ?assign ?body ?done ?stop
  case assign =>
    intro l x W K hK
    gi_wp2
    exact hK
  case body =>
    rintro l pre x W ⟨⟨v, hv, hrow, -⟩, hB⟩ hlt
    have hc := hv.cell
    gi_wp2_with (gi_at_builtin; refine wpListIn_append_own _ rfl _ _ 47 rfl w.heap.size 5 i0 (.int .u8 0) 1 1 Tryz.underlying47 hi hz0 hz1 hz2 rfl (by decide) _ _ _ rfl (hrow.alloc _) ⟨W.heap.size, 0, none⟩ 1 1 [byteV x] rfl rfl (cell_one_new _ _ _) (by simp [Value.oneCell']) (by simp only [maxLen]; omega) (by omega) (by have := hB.size; simp; omega) ?_; intro v' w1 hown' hgrow _; obtain ⟨g', cap', rfl⟩ := ownsRow_succ hown'; obtain ⟨hv1, hv2, hr2, hk2, hb2⟩ := hv.appended (by decide) hrow hB.size (Nat.le_refl _) hown' hgrow; have hc1 := hv1.cell; have hf1 := hv1.frozen)
    exact ⟨hk2.from _, ⟨hb2.size, hb2.block Bs hBl⟩, ⟨_, hv2, by simpa using hr2, trivial⟩, hB.trans hb2⟩
  case done =>
    rintro D ys W hD rfl ⟨⟨v, hv, hrow, -⟩, hB⟩ hK
    have hc := hv.cell
    gi_wp2
    refine ⟨by simp, .inl ⟨_, _, rfl, run_takeDeferred hK, ?_⟩⟩
    exact ⟨_, results_tmp rfl _ _ _, v, rfl, ownsRow_putObj hrow _ hK rfl, below_put hB (by simp at hD; omega) _⟩
  case stop =>
    rintro D c pre W _ _ h _
    exact h.elim
theorem c_collectBytes (s : BSet) (Bs : Nat) (w : World) (hB : w.heap[Bs]? = some (.cells (setC s) 33 (0, 0))) :
    Calls Tryz.prog 117 #[.func (.func 88) #[] #[.pointer (some ⟨Bs, 0, none⟩)]] w fun e W' => ∃ v, e = .returned v ∧ W'.ownsRow w.heap.size 5 1 v (bytesL s).length ((bytesL s).map byteV) ∧ Below w.heap.size w W' := by
  go_enter Tryz.func117, Tryz.ntmps117
  go_wp2_with (go_at_call 119; refine (c_appendSeqBytes s Bs w hB).mono ?_; rintro e w' ⟨v, rfl, hown, hb⟩)
  go_ret
  exact ⟨v, rfl, hown, hb⟩
theorem c_bytes (s : BSet) (w : World) :
    Calls Tryz.prog 111 #[setV s] w fun e W' => ∃ v, e = .returned v ∧ W'.ownsRow w.heap.size 5 1 v (bytesL s).length ((bytesL s).map byteV) ∧ Below w.heap.size w W' := by
  go_enter Tryz.func111, Tryz.ntmps111
  have hBs : ((w.alloc (.cells (setC s) 33)).alloc (.cells (setC s) 33)).heap[w.heap.size + 1]? = some (.cells (setC s) 33 (0, 0)) := by
    have := World.alloc_heap_new (w.alloc (.cells (setC s) 33)) (.cells (setC s) 33)
    simpa using this
  have hcol := c_collectBytes s _ _ hBs
  clear hBs
  go_wp2_with (first | (go_at_call 76; refine (c_setsAllSeq s _).mono ?_; rintro e w' ⟨rfl, rfl⟩) | (go_at_call 117; refine hcol.mono ?_; rintro e w' ⟨v, rfl, hown, hb⟩))
  go_ret
  exact ⟨v, rfl, own_lower hown (by simp; omega), (((Below.refl _ _).alloc (Nat.le_refl _) _).alloc (by simp) _).trans (hb.mono (by simp; omega))⟩
end Go.Proofs
end

section
set_option linter.unusedVariables false
set_option linter.unusedSimpArgs false
namespace Go.Proofs
open Go.RowKit Go.Shelf Rp
/-- The order of sets: by the least byte that just one of both has. -/
def cmpB (a b : BSet) : Int := if (firstB ((a &&& ~~~ b) ||| (b &&& ~~~ a))).2 then (if a.getLsbD (firstB ((a &&& ~~~ b) ||| (b &&& ~~~ a))).1.toNat then -1 else 1) else 0
set_option maxRecDepth 100000 in
set_option maxHeartbeats 1000000 in
theorem c_compare (a b : BSet) (w : World) : Calls Tryz.prog 82 #[setV a, setV b] w fun e w' => e = .returned (.int .i64 (cmpB a b)) ∧ Ext w w' := by
  have h1 := c_andNot a b
  have h2 := c_andNot b a
  have h3 := c_or (a &&& ~~~ b) (b &&& ~~~ a)
  have h4 := c_first ((a &&& ~~~ b) ||| (b &&& ~~~ a))
  have hd : cmpB a b = if (firstB ((a &&& ~~~ b) ||| (b &&& ~~~ a))).2 then (if a.getLsbD (firstB ((a &&& ~~~ b) ||| (b &&& ~~~ a))).1.toNat then -1 else 1) else 0 := rfl
  generalize (a &&& ~~~ b) ||| (b &&& ~~~ a) = d at *
  generalize a &&& ~~~ b = d1 at *
  generalize b &&& ~~~ a = d2 at *
  have h5 := c_has a (firstB d).1.toNat (by have := (firstB d).1.toNat_lt; omega)
  generalize firstB d = q at *
  obtain ⟨x, ok⟩ := q
  dsimp only at h4 h5 hd
  generalize a.getLsbD x.toNat = hb0 at *
  have HD := Lib.hid hd
  clear hd
  go_enter Tryz.func82, Tryz.ntmps82
  go_wp2_with fail
  refine wp_name fun W1 hW1 => ?_
  have hS : W1.heap.size = w.heap.size + 2 := by rw [← hW1]; simp
  have hB : Ext w W1 := by rw [← hW1]; exact ((Ext.refl _).alloc _).alloc _
  have e0 : W1.cell? ⟨w.heap.size, 0, none⟩ = some (u64 (wd a 0)) ∧ W1.cell? ⟨w.heap.size, 1, none⟩ = some (u64 (wd a 1)) ∧ W1.cell? ⟨w.heap.size, 2, none⟩ = some (u64 (wd a 2)) ∧ W1.cell? ⟨w.heap.size, 3, none⟩ = some (u64 (wd a 3)) := by
    rw [← hW1]; clear hW1; refine ⟨?_, ?_, ?_, ?_⟩ <;> go_simp
  have e1 : W1.cell? ⟨w.heap.size + 1, 0, none⟩ = some (u64 (wd b 0)) ∧ W1.cell? ⟨w.heap.size + 1, 1, none⟩ = some (u64 (wd b 1)) ∧ W1.cell? ⟨w.heap.size + 1, 2, none⟩ = some (u64 (wd b 2)) ∧ W1.cell? ⟨w.heap.size + 1, 3, none⟩ = some (u64 (wd b 3)) := by
    rw [← hW1]; clear hW1; refine ⟨?_, ?_, ?_, ?_⟩ <;> go_simp
  obtain ⟨e00, e01, e02, e03⟩ := e0
  obtain ⟨e10, e11, e12, e13⟩ := e1
  clear hW1
  have hlt0 : w.heap.size < W1.heap.size := by omega
  have hlt1 : w.heap.size + 1 < W1.heap.size := by omega
  have HS := Lib.hid hS
  clear hS
  go_region_held3 (fun w' => (∀ b o, b < W1.heap.size → w'.cell? ⟨b, o, none⟩ = W1.cell? ⟨b, o, none⟩) ∧ (∀ b o, b < W1.heap.size → w'.frozen? ⟨b, o, none⟩ = W1.frozen? ⟨b, o, none⟩) ∧ Ext W1 w')
    (first | exact stayE_start _ | exact stayE_step ‹_› hb)
    ((first
      | ((with_reducible refine (h1 _).mono ?_); rintro e w' ⟨rfl, hb⟩)
      | ((with_reducible refine (h2 _).mono ?_); rintro e w' ⟨rfl, hb⟩)
      | ((with_reducible refine (h3 _).mono ?_); rintro e w' ⟨rfl, hb⟩)
      | ((with_reducible refine (h4 _).mono ?_); rintro e w' ⟨rfl, hb⟩)))
  rename_i hH
  have hBw : Ext w w' := hB.trans hH.2.2
  cases ok with
  | false =>
    go_wp2
    go_ret
    exact ⟨by rw [HD.out]; rfl, hBw⟩
  | true =>
    cases hb0 with
    | true =>
      go_wp2_with (go_at_call 89; refine (h5 _).mono ?_; rintro e w2 ⟨rfl, hb2⟩)
      go_ret
      exact ⟨by rw [HD.out]; rfl, hBw.trans hb2⟩
    | false =>
      go_wp2_with (go_at_call 89; refine (h5 _).mono ?_; rintro e w2 ⟨rfl, hb2⟩)
      go_ret
      exact ⟨by rw [HD.out]; rfl, hBw.trans hb2⟩
end Go.Proofs
end
