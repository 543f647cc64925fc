/- The alphabet's iterator: all bytes of all classes, with the classes' numbers. The alphabet: made, Of, Join, and what is asked of it. Appending a slice that is read to a row of one's own. -/
import Derived.Test.YtmfijgigfianeaaGreatGrArr
import Derived.Test.YtmfijgigfianeaaGreatGrBase
import Derived.Deep.AppendSrc
import Derived.Deep.Upon
section
set_option linter.unusedVariables false
set_option linter.unusedSimpArgs false
namespace Rp
open Go Go.RowKit
def pairsTo (l : List BSet) (k : Nat) : List (Nat × UInt8) := (List.range k).flatMap fun i => (bytesL (l.getD i 0#256)).map fun c => (i, c)
def pairsOf (l : List BSet) : List (Nat × UInt8) := pairsTo l l.length
theorem pairsTo_succ (l : List BSet) (k : Nat) : pairsTo l (k + 1) = pairsTo l k ++ (bytesL (l.getD k 0#256)).map fun c => (k, c) := by
  unfold pairsTo; rw [List.range_succ, List.flatMap_append]; simp
theorem pairsTo_prefix (l : List BSet) (j k : Nat) (h : j ≤ k) : pairsTo l j <+: pairsTo l k := by
  obtain ⟨d, rfl⟩ := Nat.exists_eq_add_of_le h
  clear h
  induction d with
  | zero => exact List.prefix_refl _
  | succ d ih => rw [← Nat.add_assoc, pairsTo_succ]; exact ih.trans (List.prefix_append _ _)
def pairV (x : Nat × UInt8) : Array Value := #[.int .i64 (x.1 : Int), byteV x.2]
theorem keepC_cell {b : Nat} {W W' : World} (h : KeepC b W W') {p : Addr} {v : Value} (hp : p.block ≠ b) (hc : W.cell? p = some v) : W'.cell? p = some v := by
  have hlt := World.block_lt_of_cell? W p hc
  have ho : W.heap[p.block]? = some W.heap[p.block] := Array.getElem?_eq_getElem hlt
  have hcs : W.heap[p.block].isCells = true := by
    unfold World.cell? at hc
    rw [ho] at hc
    cases hx : W.heap[p.block] <;> rw [hx] at hc <;> simp_all [Obj.isCells]
  rw [← hc]
  exact World.cell?_of_block (w := W) (a := p) ((h.2 _ _ hp ho hcs).trans ho.symm)
theorem bcellS {w w' : World} (h : Below w.heap.size w w') {b o : Nat} {v : Value} (hc : w.cell? ⟨b, o, none⟩ = some v) : w'.cell? ⟨b, o, none⟩ = some v :=
  (h.cell (p := ⟨b, o, none⟩) (World.block_lt_of_cell? w ⟨b, o, none⟩ hc)).trans hc
/-- A row of sets, read, none of it in block b. -/
def RowC (b : Nat) (A : Option Addr) (l : List BSet) (w : World) : Prop :=
  ∀ k (hk : k < l.length), ∃ g off, A = some ⟨g, off, none⟩ ∧ g ≠ b ∧ w.cell? ⟨g, off + k * 4, none⟩ = some (u64 (wd l[k] 0)) ∧ w.cell? ⟨g, off + k * 4 + 1, none⟩ = some (u64 (wd l[k] 1)) ∧ w.cell? ⟨g, off + k * 4 + 2, none⟩ = some (u64 (wd l[k] 2)) ∧ w.cell? ⟨g, off + k * 4 + 3, none⟩ = some (u64 (wd l[k] 3))
theorem RowC.keep {b : Nat} {A : Option Addr} {l : List BSet} {w w' : World} (h : RowC b A l w) (k : KeepC b w w') : RowC b A l w' := fun i hi => by
  obtain ⟨g, off, e, hg, h0, h1, h2, h3⟩ := h i hi
  exact ⟨g, off, e, hg, keepC_cell k hg h0, keepC_cell k hg h1, keepC_cell k hg h2, keepC_cell k hg h3⟩
theorem RowC.of_S {b : Nat} {F : Nat → Prop} {A : Option Addr} {l : List BSet} {w : World} (h : Kset.S w F A l) (hF : ¬ F b) : RowC b A l w := fun k hk => by
  obtain ⟨g, off, e, hg, hlt, h0, h1, h2, h3⟩ := S_set h hk
  exact ⟨g, off, e, fun e => hF (e ▸ hg), h0, h1, h2, h3⟩
def RowB (b : Nat) (A : Option Addr) (bs : List UInt8) (w : World) : Prop :=
  ∀ k (hk : k < bs.length), ∃ g off, A = some ⟨g, off, none⟩ ∧ g ≠ b ∧ w.cell? ⟨g, off + k, none⟩ = some (byteV bs[k])
theorem RowB.keep {b : Nat} {A : Option Addr} {bs : List UInt8} {w w' : World} (h : RowB b A bs w) (k : KeepC b w w') : RowB b A bs w' := fun i hi => by
  obtain ⟨g, off, e, hg, h0⟩ := h i hi
  exact ⟨g, off, e, hg, keepC_cell k hg h0⟩
theorem RowB.of_own {b base : Nat} {e : TypeId} {v : Value} {bs : List UInt8} {w : World} (h : w.ownsRow base e 1 v bs.length (bs.map byteV)) (hb : b < base) :
    ∃ A cap, v = .slice A bs.length cap ∧ bs.length ≤ cap ∧ cap ≤ 9223372036854775807 ∧ RowB b A bs w := by
  rcases h.2 with ⟨rfl, h0⟩ | ⟨g, cap, cur, rfl, hg, hh, hnc, hcm, hcs, htake⟩
  · have : bs = [] := List.eq_nil_of_length_eq_zero h0
    subst this
    exact ⟨none, 0, rfl, by simp, by simp, fun k hk => by simp at hk⟩
  · refine ⟨_, cap, rfl, hnc, by simpa [maxLen] using hcm, fun k hk => ⟨g, 0, rfl, by omega, ?_⟩⟩
    have := h.cells (g := g) (by simp [Value.ownBlock]) k (byteV bs[k]) (by simp [hk])
    rwa [Addr.add_lit] at this
end Rp
namespace Go.Proofs
open Go.RowKit Go.Shelf Rp
attribute [local go_sem] Oper.semAt_some
theorem enters_members1 : ∀ args w, (callFunc 110 args).run Tryz.prog w = .ok (.enter 110 args) w := fun args w => by kernel_rfl
theorem c_members (p : Option Addr) (w : World) : Calls Tryz.prog 97 #[.pointer p] w fun e w' => e = .returned (.func (.func 110) #[] #[.pointer (some ⟨w.heap.size, 0, none⟩)]) ∧ w' = w.alloc (.cells #[.pointer p] 114) := by
  go_enter Tryz.func97, Tryz.ntmps97
  go_wp2
  go_ret
  exact ⟨rfl, rfl⟩
set_option maxRecDepth 100000 in
set_option maxHeartbeats 800000 in
theorem members1_in (n : Nat) (hn : 1 ≤ n) (y Pb b : Nat) (A : Option Addr) (cap : Nat) (l : List BSet) (J Jx : List (Nat × UInt8) → World → Prop) (W : World)
    (hJ : ∀ s A A', J s A → Bel A A' → J s A') (hJx : ∀ s A A', Jx s A → Bel A A' → Jx s A')
    (hY : ∀ pre x W1, J pre W1 → pre.length < (pairsOf l).length → YieldAt Fence.wide (n - 1) Tryz.prog y (pairV x) W1 fun e W' =>
      (e = .returned (.bool true) ∧ J (pre ++ [x]) W' ∧ KeepC b W1 W') ∨ (e = .returned (.bool false) ∧ Jx (pre ++ [x]) W'))
    (hP : W.cell? ⟨Pb, 0, none⟩ = some (.pointer (some ⟨b, 0, none⟩))) (hb : b < W.heap.size) (hS : W.cell? ⟨b, 256, none⟩ = some (.slice A l.length cap)) (hcap : l.length ≤ cap) (hcm : cap ≤ 9223372036854775807)
    (hR : RowC b A l W) (h0 : J [] W) :
    CallsIn Fence.wide n Tryz.prog 110 #[.func (.yield y) #[] #[], .pointer (some ⟨Pb, 0, none⟩)] W fun e W' => (∃ v, e = .returned v) ∧
      ((∃ ys, ys = pairsOf l ∧ J ys W') ∨ (∃ pre, True ∧ Jx pre W')) := by
  refine callsIn_of_wp Tryz.func110 rfl trivial ?_ rfl
  simp only [Tryz.ntmps110, List.size_toArray, List.length_cons, List.length_nil, Nat.reduceAdd, Nat.reduceSub, Array.replicate_succ, Array.replicate_zero, List.push_toArray, List.append_toArray, List.nil_append, List.cons_append]
  gi_wp2
  gi_loopw [12] (fun p wr => ∃ k : Nat, k ≤ l.length ∧ p = .int .i64 k ∧ J (pairsTo l k) wr ∧ RowC b A l wr ∧ W.heap.size ≤ wr.heap.size) (fun p _ => l.length - (intOf p).toNat)
  case atStart => exact ⟨0, by omega, rfl, h0, hR, Nat.le_refl _⟩
  case round =>
    obtain ⟨k, hk, rfl, hJs, hRr, hsz⟩ := hrel
    clear hP hS hR h0
    by_cases hlt : k < l.length
    · obtain ⟨g, off, rfl, hgb, e0, e1, e2, e3⟩ := hRr k hlt
      have hk0 : (0 : Int) ≤ (k : Int) := Int.natCast_nonneg _
      have hk1 : (k : Int) < l.length := by omega
      have hsucc : pairsTo l (k + 1) = pairsTo l k ++ (bytesL l[k]).map fun c => (k, c) := by rw [pairsTo_succ, List.getD_eq_getElem?_getD, List.getElem?_eq_getElem hlt]; rfl
      have hbr : b < wr.heap.size := by omega
      have hJw : ∀ w', Bel wr w' → J (pairsTo l k) w' := fun w' h => hJ _ _ _ hJs h
      obtain ⟨wo, rfl⟩ : ∃ wo : World, wo = wr := ⟨_, rfl⟩
      obtain ⟨v12, rfl⟩ : ∃ v : Nat, v = k := ⟨_, rfl⟩
      generalize hx : l[v12] = x at *
      have hJ1 : ∀ w', KeepC b wo w' → Bel wo w' → J (pairsTo l v12) w' ∧ RowC b (some ⟨g, off, none⟩) l w' := fun w' h1 h => ⟨hJw w' h, hRr.keep h1⟩
      have HS := Lib.hid hsucc
      clear hsucc
      gi_wp2_with (refine ⟨trivial, ?_⟩; gi_at_call 111; refine (callsIn_wide.2 (c_bytes x _)).mono ?_; rintro e w1 ⟨v, rfl, hO, hb1⟩)
      obtain ⟨A', cap', rfl, hle', hcm', hB⟩ := RowB.of_own (b := b) hO (by simp; omega)
      have hbel : Bel wo w1 := ((Ext.refl wo).alloc _).below.trans (hb1.mono (by simp))
      obtain ⟨hJ2, hR2⟩ := hJ1 w1 (keepC_bel hbel) hbel
      have hsz2 : W.heap.size ≤ w1.heap.size := Nat.le_trans hsz (Below.size hbel)
      clear hO hb1 hbel hJ1 hJw hJs hRr e0 e1 e2 e3
      generalize hbs : bytesL x = bs at *
      gi_wp2
      go_simp
      gi_wp2
      gi_loopw [20] (fun p wr => ∃ j : Nat, j ≤ bs.length ∧ p = .int .i64 j ∧ J (pairsTo l v12 ++ (bs.take j).map fun c => (v12, c)) wr ∧ RowC b (some ⟨g, off, none⟩) l wr ∧ RowB b A' bs wr ∧ W.heap.size ≤ wr.heap.size) (fun p _ => bs.length - (intOf p).toNat)
      case atStart => exact ⟨0, by omega, rfl, by simpa using hJ2, hR2, hB, hsz2⟩
      case round =>
        obtain ⟨j, hj, rfl, hJs, hRr, hBr, hsz3⟩ := hrel
        clear hJ2 hR2 hB
        by_cases hlj : j < bs.length
        · obtain ⟨g', off', rfl, hgb', e0⟩ := hBr j hlj
          have hj0 : (0 : Int) ≤ (j : Int) := Int.natCast_nonneg _
          have hj1 : (j : Int) < bs.length := by omega
          have hlen : (pairsTo l v12 ++ (bs.take j).map fun c => (v12, c)).length < (pairsOf l).length := by
            have h1 := pairsTo_prefix l (v12 + 1) l.length (by omega)
            rw [HS.out] at h1
            have h2 := h1.length_le
            unfold pairsOf
            simp only [List.length_append, List.length_map, List.length_take] at h2 ⊢
            omega
          have hYk := hY _ (v12, bs[j]) wr hJs hlen
          have hnext : pairsTo l v12 ++ (bs.take j).map (fun c => (v12, c)) ++ [(v12, bs[j])] = pairsTo l v12 ++ (bs.take (j + 1)).map (fun c => (v12, c)) := by
            rw [List.take_add_one, List.getElem?_eq_getElem hlj, List.map_append, List.append_assoc]; rfl
          rw [hnext] at hYk
          simp only [pairV] at hYk
          have HL := Lib.hid hlen
          have HN := Lib.hid hnext
          clear hnext hlen
          generalize hbx : bs[j] = bx at *
          obtain ⟨fn, tmps, assign, body, hy, hRd⟩ := hYk
          gi_wp2
          refine hRd.mono ?_
          rintro e W3 (⟨rfl, hJ3, hk3⟩ | ⟨rfl, hJx3⟩)
          · gi_wp2
            go_roundw
            case rel => exact ⟨j + 1, by omega, by go_num, hJ3, hRr.keep hk3, hBr.keep hk3, Nat.le_trans hsz3 hk3.1⟩
            case measure => simp [intOf]; omega
          · gi_wp2
            refine bodyPost_ret (results_none rfl _ _ _) rfl ?_
            exact ⟨⟨_, rfl⟩, .inr ⟨_, trivial, hJx3⟩⟩
        · obtain rfl : j = bs.length := by omega
          gi_wp2
          go_roundw
          case rel => exact ⟨v12 + 1, by omega, by go_num, by rw [HS.out]; simpa using hJs, hRr, by omega⟩
          case measure => simp [intOf]; omega
    · obtain rfl : k = l.length := by omega
      gi_wp2
      go_end0
      exact ⟨⟨_, rfl⟩, .inl ⟨_, rfl, hJs⟩⟩
theorem members_seq (n : Nat) (hn : 1 ≤ n) (Pb b : Nat) (A : Option Addr) (cap : Nat) (l : List BSet) (w : World) (hP : w.cell? ⟨Pb, 0, none⟩ = some (.pointer (some ⟨b, 0, none⟩))) (hb : b < w.heap.size) (hS : w.cell? ⟨b, 256, none⟩ = some (.slice A l.length cap)) (hcap : l.length ≤ cap) (hcm : cap ≤ 9223372036854775807)
    (hR : RowC b A l w) : SeqE Bel n Tryz.prog 110 #[.pointer (some ⟨Pb, 0, none⟩)] pairV (KeepC b) (fun xs => xs = pairsOf l) (fun _ => True) (pairsOf l).length w :=
  fun y J Jx W hW hJ hJx hY h0 => members1_in n hn y Pb b A cap l J Jx W hJ hJx hY (bcellS hW hP) (Nat.lt_of_lt_of_le hb hW.size) (bcellS hW hS) hcap hcm
    (fun i hi => by obtain ⟨g, off, e, hg, h0, h1, h2, h3⟩ := hR i hi; exact ⟨g, off, e, hg, bcellS hW h0, bcellS hW h1, bcellS hW h2, bcellS hW h3⟩) h0
end Go.Proofs
end

section
set_option linter.unusedVariables false
set_option linter.unusedSimpArgs false
namespace Rp
open Go Go.RowKit
/-- What the pairs write into the table. -/
def tabF (ps : List (Nat × UInt8)) (c : Nat) : Nat := ps.foldl (fun acc x => if x.2.toNat = c then x.1 % 256 else acc) 0
theorem tabF_snoc (ps : List (Nat × UInt8)) (x : Nat × UInt8) (c : Nat) : tabF (ps ++ [x]) c = if x.2.toNat = c then x.1 % 256 else tabF ps c := by
  unfold tabF; rw [List.foldl_append]; rfl
theorem tabF_lt (ps : List (Nat × UInt8)) (c : Nat) : tabF ps c < 256 := by
  unfold tabF
  have : ∀ (ps : List (Nat × UInt8)) (a : Nat), a < 256 → ps.foldl (fun acc x => if x.2.toNat = c then x.1 % 256 else acc) a < 256 := by
    intro ps
    induction ps with
    | nil => intro a h; exact h
    | cons x ps ih => intro a h; rw [List.foldl_cons]; refine ih _ ?_; split <;> omega
  exact this ps 0 (by omega)
def TabC (ps : List (Nat × UInt8)) (A : Option Addr) (n cap : Nat) (cs : Array Value) : Prop :=
  cs.size = 257 ∧ (∀ c, c < 256 → cs[c]? = some (.int .u8 (tabF ps c : Int))) ∧ cs[256]? = some (.slice A n cap)
theorem setCell_heap (w : World) (g i : Nat) (cur : Array Value) (t : TypeId) (fr : Nat × Nat) (v : Value) (hg : w.heap[g]? = some (.cells cur t fr)) : (w.setCell ⟨g, i, none⟩ v).heap[g]? = some (.cells (cur.setIfInBounds i v) t fr) := by
  rw [setCell_eq_setRow w g i cur t fr v hg]; exact setRow_heap w g cur _ t fr hg
/-- Block b is the alphabet with the classes l. -/
def Alph (w : World) (F : Nat → Prop) (b : Nat) (l : List BSet) : Prop :=
  F b ∧ ∃ cs A cap, w.heap[b]? = some (.cells cs 134 (0, 0)) ∧ TabC (pairsOf l) A l.length cap cs ∧ Kset.S w F A l ∧ l.length ≤ cap ∧ cap ≤ 9223372036854775807
theorem frozen_of_row (w : World) (b i : Nat) (cs : Array Value) (t : TypeId) (h : w.heap[b]? = some (.cells cs t (0, 0))) : w.frozen? ⟨b, i, none⟩ = false := by
  simp [World.frozen?, h]
end Rp
namespace Go.Proofs
open Go.RowKit Go.Shelf Rp
attribute [local go_sem] Oper.semAt_some
set_option maxRecDepth 100000 in
theorem zero_alph : Tryz.zeroCells134 = (Array.replicate 256 (Value.int .u8 0)).push (.slice none 0 0) := by kernel_rfl
theorem zero_tab (A : Option Addr) (n cap : Nat) : TabC [] A n cap (Tryz.zeroCells134.setIfInBounds 256 (.slice A n cap)) := by
  rw [zero_alph]
  refine ⟨by simp, fun c hc => ?_, by simp⟩
  rw [Array.getElem?_setIfInBounds_ne (by omega), Array.getElem?_push]
  simp [tabF, hc, Nat.ne_of_lt hc]
set_option maxRecDepth 100000 in
set_option maxHeartbeats 800000 in
theorem c_made (A : Option Addr) (cap : Nat) (l : List BSet) (F : Nat → Prop) (w : World) (hS : Kset.S w F A l) (hcap : l.length ≤ cap) (hcm : cap ≤ 9223372036854775807) :
    Calls Tryz.prog 84 #[.slice A l.length cap] w fun e w' => e = .returned (.pointer (some ⟨w.heap.size, 0, none⟩)) ∧
      (∃ cs, w'.heap[w.heap.size]? = some (.cells cs 134 (0, 0)) ∧ TabC (pairsOf l) A l.length cap cs) ∧ Below w.heap.size w w' := by
  refine (callsIn_wide (n := 9)).1 ?_
  refine callsIn_of_wp_marks Tryz.func84 rfl trivial ?_ rfl
  simp only [Tryz.ntmps84, List.size_toArray, List.length_cons, List.length_nil, Nat.reduceAdd, Nat.reduceSub, Array.replicate_succ, Array.replicate_zero, List.push_toArray, List.append_toArray, List.nil_append, List.cons_append]
  gi_wp2_with (refine ⟨trivial, ?_⟩; gi_at_call 97; refine (callsIn_wide.2 (c_members _ _)).mono ?_; rintro e w' ⟨rfl, rfl⟩)
  have hsz : ((w.alloc (.cells (Tryz.zeroCells134.setIfInBounds 256 (.slice A l.length cap)) 134)).alloc (.cells #[.pointer (some ⟨w.heap.size, 0, none⟩)] 114)).heap.size = w.heap.size + 1 + 1 := by simp
  have hB0 : Below w.heap.size w (((w.alloc (.cells (Tryz.zeroCells134.setIfInBounds 256 (.slice A l.length cap)) 134)).alloc (.cells #[.pointer (some ⟨w.heap.size, 0, none⟩)] 114)).alloc (.cells #[.pointer (some ⟨w.heap.size, 0, none⟩)] 114)) := (((Ext.refl _).alloc _).alloc _).alloc _ |>.below
  have hH0 : (((w.alloc (.cells (Tryz.zeroCells134.setIfInBounds 256 (.slice A l.length cap)) 134)).alloc (.cells #[.pointer (some ⟨w.heap.size, 0, none⟩)] 114)).alloc (.cells #[.pointer (some ⟨w.heap.size, 0, none⟩)] 114)).heap[w.heap.size]? = some (.cells (Tryz.zeroCells134.setIfInBounds 256 (.slice A l.length cap)) 134 (0, 0)) :=
    (Below.heap_alloc _ _ _ (by simp; omega)).trans ((Below.heap_alloc _ _ _ (by simp)).trans (World.alloc_heap_new w _))
  have hH1 : (((w.alloc (.cells (Tryz.zeroCells134.setIfInBounds 256 (.slice A l.length cap)) 134)).alloc (.cells #[.pointer (some ⟨w.heap.size, 0, none⟩)] 114)).alloc (.cells #[.pointer (some ⟨w.heap.size, 0, none⟩)] 114)).heap[w.heap.size + 1]? = some (.cells #[.pointer (some ⟨w.heap.size, 0, none⟩)] 114 (0, 0)) :=
    (Below.heap_alloc _ _ _ (by simp)).trans (by have := World.alloc_heap_new (w.alloc (.cells (Tryz.zeroCells134.setIfInBounds 256 (.slice A l.length cap)) 134)) (.cells #[.pointer (some ⟨w.heap.size, 0, none⟩)] 114); simpa using this)
  have hH2 : (((w.alloc (.cells (Tryz.zeroCells134.setIfInBounds 256 (.slice A l.length cap)) 134)).alloc (.cells #[.pointer (some ⟨w.heap.size, 0, none⟩)] 114)).alloc (.cells #[.pointer (some ⟨w.heap.size, 0, none⟩)] 114)).heap[w.heap.size + 1 + 1]? = some (.cells #[.pointer (some ⟨w.heap.size, 0, none⟩)] 114 (0, 0)) := by
    have := World.alloc_heap_new ((w.alloc (.cells (Tryz.zeroCells134.setIfInBounds 256 (.slice A l.length cap)) 134)).alloc (.cells #[.pointer (some ⟨w.heap.size, 0, none⟩)] 114)) (.cells #[.pointer (some ⟨w.heap.size, 0, none⟩)] 114)
    rwa [hsz] at this
  have hsz3 : (((w.alloc (.cells (Tryz.zeroCells134.setIfInBounds 256 (.slice A l.length cap)) 134)).alloc (.cells #[.pointer (some ⟨w.heap.size, 0, none⟩)] 114)).alloc (.cells #[.pointer (some ⟨w.heap.size, 0, none⟩)] 114)).heap.size = w.heap.size + 3 := by simp
  have hT := zero_tab A l.length cap
  generalize (((w.alloc (.cells (Tryz.zeroCells134.setIfInBounds 256 (.slice A l.length cap)) 134)).alloc (.cells #[.pointer (some ⟨w.heap.size, 0, none⟩)] 114)).alloc (.cells #[.pointer (some ⟨w.heap.size, 0, none⟩)] 114)) = W0 at *
  generalize Tryz.zeroCells134.setIfInBounds 256 (.slice A l.length cap) = cs0 at *
  have hS0 : RowC w.heap.size A l W0 := RowC.of_S (F := fun b => F b ∧ b < w.heap.size) (fun hl => by
    obtain ⟨b, off, inner, e, hF, hlt, hr, hc⟩ := hS hl
    exact ⟨b, off, inner, e, ⟨hF, hlt⟩, Nat.lt_of_lt_of_le hlt hB0.size, by rw [show inner = inner from rfl]; exact hr.imp fun _ _ _ h => h, fun j u hu => (hB0.cell (p := ⟨b, off + j, none⟩) hlt).trans (hc j u hu)⟩) (fun h => by omega)
  have hb0 := (cell_of_row W0 w.heap.size 256 _ _ _ hH0).trans hT.2.2
  have hp0 := cell_of_row W0 (w.heap.size + 1 + 1) 0 _ _ _ hH2
  simp at hp0
  clear hsz
  refine wpIn_rangeE Bel (fun h => h.below) (fun h => h.block) (by omega) (gf := 110) (lb := #[.pointer (some ⟨w.heap.size + 1 + 1, 0, none⟩)]) rfl enters_members1
    (members_seq _ (by omega) (w.heap.size + 1 + 1) w.heap.size A cap l W0 hp0 (by omega) hb0 hcap hcm hS0) keepC_t keepC_b (Below.refl _ _) (fun _ => rfl)
    (fun pre W => ((∃ cs t fr, W.heap[w.heap.size]? = some (.cells cs t fr) ∧ (t = 134 ∧ fr = (0, 0) ∧ TabC pre A l.length cap cs)) ∧ (∃ cs t fr, W.heap[w.heap.size + 1]? = some (.cells cs t fr) ∧ (cs = #[.pointer (some ⟨w.heap.size, 0, none⟩)] ∧ t = 114 ∧ fr = (0, 0)))) ∧ Below w.heap.size w W)
    (fun _ _ _ => False)
    (StableE.and (StableE.and (stable_cells _ _) (stable_cells _ _)) (stable_below (by omega)))
    (fun _ => stable_const _)
    ⟨⟨⟨_, _, _, hH0, rfl, rfl, hT⟩, ⟨_, _, _, hH1, rfl, rfl, rfl⟩⟩, hB0⟩
    (fun x => { tmps := #[.slice A l.length cap, undef, .pointer none, .pointer (some ⟨w.heap.size + 1, 0, none⟩), .int .i64 (x.1 : Int), byteV x.2, .slice A l.length cap, .agg cs0, .pointer (some ⟨w.heap.size, 0, none⟩), .pointer (some ⟨w.heap.size, 0, none⟩), .func (.func 110) #[] #[.pointer (some ⟨w.heap.size + 1 + 1, 0, none⟩)], .int .i64 (x.1 : Int), byteV x.2, undef, undef, undef, undef, undef, undef, undef, undef], defers := [] }) ?assign ?body ?done ?stop
  case assign =>
    intro l x W K hK
    simp only [pairV]
    gi_wp2
    simpa using hK
  case body =>
    rintro ll pre x W ⟨⟨⟨cs, t, fr, hH, rfl, rfl, hTc⟩, ⟨cs2, t2, fr2, hH', rfl, rfl, rfl⟩⟩, hb⟩ hlt
    have hxl := x.2.toNat_lt
    have hc := (cell_of_row W w.heap.size x.2.toNat _ _ _ hH).trans (hTc.2.1 _ hxl)
    have hf := frozen_of_row W w.heap.size x.2.toNat _ _ hH
    have hp := cell_of_row W (w.heap.size + 1) 0 _ _ _ hH'
    simp at hp
    have hset := fun v => setCell_heap W w.heap.size x.2.toNat cs _ _ v hH
    have hx0 : (0 : Int) ≤ (x.2.toNat : Int) := Int.natCast_nonneg _
    have hx1 : (x.2.toNat : Int) < 256 := by omega
    gi_wp2
    refine ⟨(KeepsOthers.setCell _ _ _).from _, keepC_set W _ rfl _, ⟨⟨_, _, _, hset _, rfl, rfl, ?_⟩, ⟨_, _, _, (Below.heap_setCell _ _ _ _ (by simp)).trans hH', rfl, rfl, rfl⟩⟩, ?_⟩
    · refine ⟨by rw [Array.size_setIfInBounds]; exact hTc.1, fun c hc' => ?_, by rw [Array.getElem?_setIfInBounds_ne (by omega)]; exact hTc.2.2⟩
      rw [tabF_snoc]
      by_cases hcx : x.2.toNat = c
      · rw [if_pos hcx, hcx, Array.getElem?_setIfInBounds_self_of_lt (by rw [hTc.1]; omega)]; simp
      · rw [if_neg hcx, Array.getElem?_setIfInBounds_ne hcx]; exact hTc.2.1 c hc'
    · exact hb.trans ⟨rfl, rfl, rfl, by simp, fun k hk => Below.heap_setCell _ _ _ _ (by simp; omega)⟩
  case done =>
    rintro D ys W hD rfl ⟨⟨⟨cs, t, fr, hH, rfl, rfl, hTc⟩, ⟨cs2, t2, fr2, hH', rfl, rfl, rfl⟩⟩, hb⟩ hK
    have hp := cell_of_row W (w.heap.size + 1) 0 _ _ _ hH'
    simp at hp
    gi_wp2
    refine ⟨by simp, .inl ⟨_, _, rfl, run_takeDeferred hK, ?_⟩⟩
    exact ⟨_, results_tmp rfl _ _ _, rfl, ⟨cs, (World.putObj_heap_other (by omega)).trans hH, hTc⟩, below_put hb (by omega) _⟩
  case stop =>
    rintro D c pre W _ _ h _
    exact h.elim
end Go.Proofs
end

section
set_option linter.unusedVariables false
set_option linter.unusedSimpArgs false
namespace Rp
open Go Go.RowKit
theorem Reps.ones {α : Type} {R : α → List Value → Prop} {size : Nat} : ∀ {ps : List α} {cs : List Value}, Reps R size ps cs → (∀ p c, R p c → ∀ u ∈ c, u.oneCell' = true) → ∀ u ∈ cs, u.oneCell' = true
  | [], cs, h, _, u, hu => by rw [show cs = [] from h] at hu; simp at hu
  | p :: ps, cs, ⟨c, r, e, hc, hp, hr⟩, hR, u, hu => by
    rw [e] at hu
    rcases List.mem_append.1 hu with hu | hu
    · exact hR p c hp u hu
    · exact Reps.ones hr hR u hu
section
variable {P : Program} {ops : Array Oper} {rest : List Oper} {o : Oper} {a : Act} {Q : Exit → Act → World → Prop} {α : Type}
theorem run_own_appendS (d : Kd α) (W : World) (base : Nat) (t ty e : TypeId) (z : Value) (bytes : Nat)
    (ht : P.underlying t = some (.slice e)) (hinfo : (P.info? e).map (fun i => (i.zero, i.size, i.bytes)) = some (some z, d.sz, bytes)) (hz : z.cells.size = d.sz) (hs0 : 0 < d.sz) (hb0 : 0 < bytes)
    (v : Value) (xs ys : List α) (A : Option Addr) (cap2 : Nat) (F G : Nat → Prop) (hp : d.S W G A ys) (hG : ∀ q c, d.R W G q c → d.R W (fun b => F b ∧ some b ≠ v.ownBlock) q c)
    (HO : OwnS d e W base F v xs) (hfresh : ∀ k, W.heap.size ≤ k → F k) (hbase : base ≤ W.heap.size) (hl : (xs.length + ys.length) * bytes ≤ 140737488355328) :
    ∃ v1 w1, (Builtin.append_ #[t, t] ty #[v, .slice A ys.length cap2]).run P W = .ok v1 w1 ∧ OwnS d e w1 base F v1 (xs ++ ys) ∧ Mov W w1 v.ownBlock v1.ownBlock ∧ (ys ≠ [] → ∃ g cap, v1 = .slice (some ⟨g, 0, none⟩) (xs ++ ys).length cap) := by
  obtain ⟨i0, hi, hzz⟩ := Option.map_eq_some_iff.1 hinfo
  simp only [Prod.mk.injEq] at hzz
  obtain ⟨hz0, hz1, hz2⟩ := hzz
  by_cases hy : ys = []
  · subst hy
    refine ⟨v, W, ?_, by simpa using HO, Mov.refl _ _, fun e => absurd rfl e⟩
    obtain ⟨A1, cap1, rfl, h1, h2, _⟩ := HO.reads
    refine run_append_nothing (P := P) W t t ty e i0 ht hi A1 xs.length cap1 h1 _ ⟨.inl ⟨e, ht⟩, fun w' => ?_, ?_, ?_, by simp, by simp⟩
    · simp [Builtin.lenOf]
    · cases A <;> simp [Builtin.firstCells, loadCells, loadCellsFrom]
    · cases A <;> simp [Builtin.firstCells, loadCells, loadCellsFrom]
  · obtain ⟨hF, inner, hown, hr⟩ := HO
    obtain ⟨b2, off2, inner2, rfl, hGb, hlt2, hr2, hc2⟩ := hp hy
    have hlen : xs.length + ys.length ≤ 140737488355328 := Nat.le_trans (Nat.le_mul_of_pos_right _ hb0) hl
    have h1 : ∀ u ∈ inner2, u.oneCell' = true := Reps.ones hr2 fun _ _ h => d.one h
    obtain ⟨v1, w1, hrun, hown1, hg1, hnil, hat⟩ := run_append_own_at (P := P) W base t ty e i0 z d.sz bytes ht hi hz0 hz1 hz2 hz hs0 v xs.length inner hown ⟨b2, off2, none⟩ ys.length cap2 inner2 hr2.length
      (fun j u hu => by rw [Addr.add_lit]; exact hc2 j u hu) h1 (by simp only [maxLen]; omega) hl hbase
    have hat' : v1.ownBlock = v.ownBlock ∨ ∃ b, v1.ownBlock = some b ∧ W.heap.size ≤ b := hat.imp id fun h => ⟨_, h, by simp⟩
    have hm : Mov W w1 v.ownBlock v1.ownBlock := .of_grown hg1 hat'
    have hne : ∀ k, some k ≠ v.ownBlock → k < W.heap.size → some k ≠ v1.ownBlock := by
      intro k hk hlt
      rcases hat' with h | ⟨b, hb, hle⟩
      · rw [h]; exact hk
      · rw [hb]; intro he; injection he with he; omega
    have stp : ∀ {q : α} {c : List Value}, d.R W (fun b => F b ∧ some b ≠ v.ownBlock) q c → d.R w1 (fun b => F b ∧ some b ≠ v1.ownBlock) q c := by
      intro q c hq
      have h1 := d.move (w1 := w1) (fun k hk => hm.block k hk.2 hk.1.2) (d.bound hq)
      exact d.mono (fun k hk => ⟨hk.1.1, hne k hk.1.2 hk.2⟩) h1
    refine ⟨v1, w1, hrun, ⟨fun k hk => ?_, inner ++ inner2, ?_, ?_⟩, hm, fun _ => ?_⟩
    · rcases hat' with h | ⟨b, hb, hle⟩
      · exact hF k (h ▸ hk)
      · rw [hb] at hk; injection hk with hk; exact hfresh k (by omega)
    · rw [List.length_append]; exact hown1
    · exact (hr.imp fun _ _ _ h => stp h).append (hr2.imp fun _ _ _ h => stp (hG _ _ h))
    · rcases hown1.2 with ⟨_, h0⟩ | ⟨g, cap, cur, hv, _⟩
      · exact absurd (List.eq_nil_of_length_eq_zero (by omega)) hy
      · exact ⟨g, cap, by rw [List.length_append]; exact hv⟩
theorem wp_own_appendS {K : Act → World → Prop} (d : Kd α) (W : World) (base : Nat) (s x : Operand) (t e : TypeId) (z : Value) (bytes : Nat)
    (ho : o.op = .call { callee := .builtin .append, args := #[s, x], argTypes := #[t, t] })
    (ht : P.underlying t = some (.slice e)) (hinfo : (P.info? e).map (fun i => (i.zero, i.size, i.bytes)) = some (some z, d.sz, bytes)) (hz : z.cells.size = d.sz) (hs0 : 0 < d.sz) (hb0 : 0 < bytes)
    (v : Value) (xs ys : List α) (A : Option Addr) (cap2 : Nat) (F G : Nat → Prop) (hs : a.eval s = v) (hx : a.eval x = .slice A ys.length cap2) (hp : d.S W G A ys) (hG : ∀ q c, d.R W G q c → d.R W (fun b => F b ∧ some b ≠ v.ownBlock) q c)
    (HO : OwnS d e W base F v xs) (hfresh : ∀ k, W.heap.size ≤ k → F k) (hbase : base ≤ W.heap.size) (hl : (xs.length + ys.length) * bytes ≤ 140737488355328)
    (h : ∀ v1 w1, OwnS d e w1 base F v1 (xs ++ ys) → Mov W w1 v.ownBlock v1.ownBlock → (ys ≠ [] → ∃ g cap, v1 = .slice (some ⟨g, 0, none⟩) (xs ++ ys).length cap) → K (a.put o.dst v1) w1) :
    Oper.wp P o a W K Q := by
  obtain ⟨v1, w1, hrun, h1, h2, h3⟩ := run_own_appendS (P := P) d W base t o.type e z bytes ht hinfo hz hs0 hb0 v xs ys A cap2 F G hp hG HO hfresh hbase hl
  unfold Oper.wp execOp
  simp only [ho, resolve, invoke, builtin, Sem.run_bind, Sem.run_pure, Result.andThen_ok, List.map_toArray, List.map_cons, List.map_nil, hs, hx, hrun]
  exact h v1 w1 h1 h2 h3
theorem own_appendS (d : Kd α) (W : World) (base : Nat) (hgd : o.guard = none) (s x : Operand) (t e : TypeId) (z : Value) (bytes : Nat)
    (ho : o.op = .call { callee := .builtin .append, args := #[s, x], argTypes := #[t, t] })
    (ht : P.underlying t = some (.slice e)) (hinfo : (P.info? e).map (fun i => (i.zero, i.size, i.bytes)) = some (some z, d.sz, bytes)) (hz : z.cells.size = d.sz) (hs0 : 0 < d.sz) (hb0 : 0 < bytes)
    (v : Value) (xs ys : List α) (A : Option Addr) (cap2 : Nat) (F G : Nat → Prop) (hs : a.eval s = v) (hx : a.eval x = .slice A ys.length cap2) (hp : d.S W G A ys) (hG : ∀ q c, d.R W G q c → d.R W (fun b => F b ∧ some b ≠ v.ownBlock) q c)
    (HO : OwnS d e W base F v xs) (hfresh : ∀ k, W.heap.size ≤ k → F k) (hbase : base ≤ W.heap.size) (hl : (xs.length + ys.length) * bytes ≤ 140737488355328)
    (h : ∀ v1 w1, OwnS d e w1 base F v1 (xs ++ ys) → Mov W w1 v.ownBlock v1.ownBlock → (ys ≠ [] → ∃ g cap, v1 = .slice (some ⟨g, 0, none⟩) (xs ++ ys).length cap) → wpList P ops Q rest (a.put o.dst v1) w1) :
    wpList P ops Q (o :: rest) a W :=
  wpList_plain hgd fun _ hK => wp_own_appendS d W base s x t e z bytes ho ht hinfo hz hs0 hb0 v xs ys A cap2 F G hs hx hp hG HO hfresh hbase hl fun v1 w1 h1 h2 h3 => hK _ _ (h v1 w1 h1 h2 h3)
theorem step_own_appendS {K : Act → World → Prop} {E : Prop} (d : Kd α) (W : World) (base : Nat) (hgd : o.guard = none) (s x : Operand) (t e : TypeId) (z : Value) (bytes : Nat)
    (ho : o.op = .call { callee := .builtin .append, args := #[s, x], argTypes := #[t, t] })
    (ht : P.underlying t = some (.slice e)) (hinfo : (P.info? e).map (fun i => (i.zero, i.size, i.bytes)) = some (some z, d.sz, bytes)) (hz : z.cells.size = d.sz) (hs0 : 0 < d.sz) (hb0 : 0 < bytes)
    (v : Value) (xs ys : List α) (A : Option Addr) (cap2 : Nat) (F G : Nat → Prop) (hs : a.eval s = v) (hx : a.eval x = .slice A ys.length cap2) (hp : d.S W G A ys) (hG : ∀ q c, d.R W G q c → d.R W (fun b => F b ∧ some b ≠ v.ownBlock) q c)
    (HO : OwnS d e W base F v xs) (hfresh : ∀ k, W.heap.size ≤ k → F k) (hbase : base ≤ W.heap.size) (hl : (xs.length + ys.length) * bytes ≤ 140737488355328)
    (h : ∀ v1 w1, OwnS d e w1 base F v1 (xs ++ ys) → Mov W w1 v.ownBlock v1.ownBlock → (ys ≠ [] → ∃ g cap, v1 = .slice (some ⟨g, 0, none⟩) (xs ++ ys).length cap) → K (a.put o.dst v1) w1) :
    if Region.wanted o (yielded ops a.tmps) = true then Oper.wp P o a W K Q else E := by
  have hw : Region.wanted o (yielded ops a.tmps) = true := by simp [Region.wanted, hgd]
  rw [if_pos hw]
  exact wp_own_appendS d W base s x t e z bytes ho ht hinfo hz hs0 hb0 v xs ys A cap2 F G hs hx hp hG HO hfresh hbase hl h
end
theorem stay_mov {W w1 w2 : World} {r r' : Option Nat} (h : (∀ b o, b < W.heap.size → w1.cell? ⟨b, o, none⟩ = W.cell? ⟨b, o, none⟩) ∧ (∀ b o, b < W.heap.size → w1.frozen? ⟨b, o, none⟩ = W.frozen? ⟨b, o, none⟩) ∧ Below W.heap.size W w1) (hm : Mov w1 w2 r r') (hr : ∀ k, r = some k → W.heap.size ≤ k) :
    (∀ b o, b < W.heap.size → w2.cell? ⟨b, o, none⟩ = W.cell? ⟨b, o, none⟩) ∧ (∀ b o, b < W.heap.size → w2.frozen? ⟨b, o, none⟩ = W.frozen? ⟨b, o, none⟩) ∧ Below W.heap.size W w2 := by
  have h2 := Mov.below h.2.2 hm h.2.2.size hr
  exact ⟨fun b o hl => h2.cell (p := ⟨b, o, none⟩) hl, fun b o hl => h2.frozen (p := ⟨b, o, none⟩) hl, h2⟩
theorem OwnS.fresh {α : Type} (d : Kd α) (e : TypeId) (W : World) (base : Nat) (F : Nat → Prop) (hb : base ≤ W.heap.size) (hF : F W.heap.size) : OwnS d e (W.alloc (.cells #[] e)) base F (.slice (some ⟨W.heap.size, 0, none⟩) 0 0) [] :=
  ⟨fun k hk => by simp [Value.ownBlock] at hk; subst hk; exact hF, [], ⟨by simp, .inr ⟨W.heap.size, 0, #[], rfl, hb, heap_alloc_new W _, by simp, by simp, by simp, by simp⟩⟩, rfl⟩
end Rp
end
