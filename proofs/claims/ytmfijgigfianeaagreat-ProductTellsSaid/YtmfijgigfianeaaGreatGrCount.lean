/- product.Not. How many strings of a length an automaton accepts, in plain words. product.Count. -/
import Derived.Test.YtmfijgigfianeaaGreatGrFirst
import Derived.Test.YtmfijgigfianeaaGreatGrRef
section
set_option linter.unusedVariables false
set_option linter.unusedSimpArgs false
namespace Rp
open Go.Proofs
def notM (m : List Int) : List Int := if m.length = 0 then [0] else []
def notB (d : Dfa) : Dfa × Int := if rightB d = true then (⟨d.cls, d.next, d.marks.map notM⟩, 0) else (noDfa, 182)
theorem not_step (ms : List (List Int)) (k : Nat) (h : k < ms.length) : ((ms.take k).map notM ++ ms.drop k).set k (notM ms[k]) = (ms.take (k + 1)).map notM ++ ms.drop (k + 1) := by
  have hl : ((ms.take k).map notM).length = k := by simp; omega
  rw [List.set_append_right _ _ (by omega), hl, Nat.sub_self, List.drop_eq_getElem_cons h, List.set_cons_zero, List.take_succ_eq_append_getElem h, List.map_append, List.append_assoc]
  rfl
end Rp
namespace Go.Proofs
open Go.RowKit Go.Shelf Rp Go.Maps
attribute [local go_sem] Oper.semAt_some
set_option maxRecDepth 100000 in
set_option maxHeartbeats 800000 in
theorem c_not0 (A1 A2 A3 : Option Addr) (k1 k2 k3 : Nat) (d : Dfa) (F : Nat → Prop) (w : World) (hq : DfaQ w F A1 k1 A2 k2 A3 k3 d) (hr : rightB d = false) :
    Calls Tryz.prog 27 #[.agg #[.slice A1 d.cls.length k1, .slice A2 d.next.length k2, .slice A3 d.marks.length k3]] w
      fun e w' => e = .returned (.tuple #[dfaV nilDA noDfa, .int .i64 182]) ∧ Below w.heap.size w w' := by
  have hra := fun W' (hW' : Below w.heap.size w W') => (hq.below hW').right
  rw [hr] at hra
  go_enter Tryz.func27, Tryz.ntmps27
  go_wp2_with fail
  refine calls_name fun W0 hW0 => ?_
  have q2 : W0.heap[w.heap.size + 1]? = some (.cells #[.slice none 0 0, .slice none 0 0, .slice none 0 0] 25 (0, 0)) := by
    rw [← hW0]
    have := World.alloc_heap_new (w.alloc (.cells #[.slice A1 d.cls.length k1, .slice A2 d.next.length k2, .slice A3 d.marks.length k3] 25)) (.cells #[.slice none 0 0, .slice none 0 0, .slice none 0 0] 25)
    simpa using this
  have hE0 : Ext w W0 := by rw [← hW0]; exact ((Ext.refl _).alloc _).alloc _
  clear hW0
  refine (hra W0 hE0.below).mono ?_
  rintro e w1 ⟨rfl, hB1⟩
  have hq1 := (hB1.block _ (Array.getElem?_eq_some_iff.1 q2).1).trans q2
  obtain ⟨z0, z1, z2⟩ := cells3 hq1
  have z3 : ∀ j, w1.frozen? ⟨w.heap.size + 1, j, none⟩ = false := fun j => frozen_of_row w1 _ j _ _ hq1
  have hBw := hE0.below.trans (hB1.mono hE0.size)
  clear hra q2 hq1
  go_wp2
  obtain ⟨u0, u1, u2, hBF, _⟩ := set3 w1 (w.heap.size + 1) 25 _ _ _ (.slice none 0 0) (.slice none 0 0) (.slice none 0 0) z0 z1 z2
  exact bodyPost_ret (v := .tuple #[dfaV nilDA noDfa, .int .i64 182]) (by simp [results, Tryz.results27, go_sem, u0, u1, u2, dfaV, dfaC, nilDA, noDfa]) rfl ⟨rfl, hBw.trans (hBF _ (by omega))⟩
set_option maxRecDepth 100000 in
set_option maxHeartbeats 1600000 in
theorem c_not1 (h : DA) (d : Dfa) (F : Nat → Prop) (w : World) (hR : DfaR w F h d) (hr : rightB d = true) :
    Calls Tryz.prog 27 #[dfaV h d] w
      fun e w' => ∃ h', e = .returned (.tuple #[dfaV h' ⟨d.cls, d.next, d.marks.map notM⟩, .int .i64 0]) ∧ DfaO w' w.heap.size h' ⟨d.cls, d.next, d.marks.map notM⟩ ∧ Below w.heap.size w w' := by
  have hra := fun W' (hW' : Below w.heap.size w W') => (hR.q.below hW').right
  rw [hr] at hra
  have hcp := fun W' (hW' : Below w.heap.size w W') => c_copyX h d F W' (hR.below hW') (right_sizes hr)
  have hs3 := hR.s3
  obtain ⟨A1, k1, A2, k2, A3, k3⟩ := h
  simp only [dfaV, dfaC] at hra hcp hs3 ⊢
  go_enter Tryz.func27, Tryz.ntmps27
  go_wp2_with fail
  refine calls_name fun W0 hW0 => ?_
  have q0 : W0.heap[w.heap.size]? = some (.cells #[.slice A1 d.cls.length k1, .slice A2 d.next.length k2, .slice A3 d.marks.length k3] 25 (0, 0)) := by
    rw [← hW0]; exact (Below.heap_alloc _ _ _ (by simp)).trans (World.alloc_heap_new w _)
  have q2 : W0.heap[w.heap.size + 1]? = some (.cells #[.slice none 0 0, .slice none 0 0, .slice none 0 0] 25 (0, 0)) := by
    rw [← hW0]
    have := World.alloc_heap_new (w.alloc (.cells #[.slice A1 d.cls.length k1, .slice A2 d.next.length k2, .slice A3 d.marks.length k3] 25)) (.cells #[.slice none 0 0, .slice none 0 0, .slice none 0 0] 25)
    simpa using this
  have hE0 : Ext w W0 := by rw [← hW0]; exact ((Ext.refl _).alloc _).alloc _
  clear hW0
  refine (hra W0 hE0.below).mono ?_
  rintro e w1 ⟨rfl, hB1⟩
  have hq0 := (hB1.block _ (Array.getElem?_eq_some_iff.1 q0).1).trans q0
  have hq1 := (hB1.block _ (Array.getElem?_eq_some_iff.1 q2).1).trans q2
  obtain ⟨c0, c1, c2⟩ := cells3 hq0
  have hBw := hE0.below.trans (hB1.mono hE0.size)
  have hl1 : w.heap.size + 1 < w1.heap.size := (Array.getElem?_eq_some_iff.1 hq1).1
  have HQ0 := Lib.hid hq0
  have HQ1 := Lib.hid hq1
  clear hra q0 q2 hq0 hq1
  go_wp2_with (go_at_call 14; refine (hcp w1 hBw).mono ?_; rintro e w2 ⟨h', B1, B2, rfl, hX, hB2⟩; obtain ⟨a1, n1, a2, n2, a3, n3⟩ := h'; obtain ⟨d0, d1, d2⟩ := cells3 ((hB2.block _ (by omega)).trans HQ0.out); have hl2 := hB2.size; have hl0 : w.heap.size < w2.heap.size := (by omega))
  have hX2 := Lib.hid hX
  have hB2w := hBw.trans (hB2.mono hBw.size)
  have hm1 := (right_len hr)
  have hm0 : d.marks ≠ [] := by intro e; have := hm1.2.2; rw [e] at this; simp at this; omega
  obtain ⟨g3, c3, hv3⟩ := hX.o3.form hm0
  obtain ⟨rfl, _, rfl⟩ := slice_inj hv3
  have hg3 : B2 ≤ g3 ∧ g3 < w2.heap.size := ⟨hX.o3.1 g3 rfl, (hX.o3.lt g3 rfl).2⟩
  have hB2le : w1.heap.size ≤ B2 := Nat.le_trans hX.h1 hX.h2
  refine wp_name fun W3 hW3 => ?_
  have hn4 : W3.heap[w2.heap.size]? = some (.cells #[.slice a1 d.cls.length n1, .slice a2 d.next.length n2, .slice (some ⟨g3, 0, none⟩) d.marks.length n3] 25 (0, 0)) := by rw [← hW3]; exact World.alloc_heap_new w2 _
  have hB3 : Below w2.heap.size w2 W3 := by rw [← hW3]; exact (Below.refl _ _).alloc (Nat.le_refl _) _
  have hz3 : w2.heap.size < W3.heap.size := by rw [← hW3]; simp
  clear hW3 hcp d0 d1 d2 c0 c1 c2 hm1 hm0 hX
  have HN4 := Lib.hid hn4
  clear hn4
  go_loopg [16] (d.marks.length + 1) (fun gk vk wr => ∃ (k : Nat), vk = .int .i64 (k : Int) ∧ k ≤ d.marks.length ∧ gk + k = d.marks.length + 1 ∧ OwnS KintF 36 wr w1.heap.size (fun b => B2 ≤ b ∧ b ≠ w2.heap.size) (.slice (some ⟨g3, 0, none⟩) d.marks.length n3) ((d.marks.take k).map notM ++ d.marks.drop k) ∧ Kp (fun b => b = g3) W3 wr)
  case atStart => exact ⟨0, rfl, Nat.zero_le _, by omega, by
    simp only [List.take_zero, List.map_nil, List.nil_append, List.drop_zero]
    exact ((hX2.out.o3.bound).step (w1 := W3) fun b _ hl => hB3.block b hl).mono fun b hb => ⟨hb.1, by omega⟩, Kp.refl _ _⟩
  case round =>
    obtain ⟨k, rfl, hk, hgk, hO, hK⟩ := hrel
    have HG := Lib.hid hgk
    clear hgk
    have hBr : Below w1.heap.size w1 wr := hB2.trans ((hB3.mono hl2).trans (hK.below (by omega) (fun j hj e => by omega)))
    have hBwr : Below w.heap.size w wr := hBw.trans (hBr.mono hBw.size)
    have hn4 := hK.heap HN4.out (by omega)
    obtain ⟨e0, e1, e2⟩ := cells3 hn4
    have hzr := hK.size
    by_cases hlt : k < d.marks.length
    · have hlt' : (k : Int) < d.marks.length := by omega
      have hk0 : (0 : Int) ≤ k := by omega
      obtain ⟨b3, o3, B3, cp3, rfl, hF3, hb3, p3, hl3, hm3, _⟩ := S_slice (hs3.bound.step (w1 := wr) fun b _ hl => hBwr.block b hl) hlt
      have hb3' : b3 < g3 := by have := hF3.2; have := hBw.size; omega
      have hml4 : d.marks.length ≤ 4000 := by have := right_len hr; omega
      have hg2 : g3 < w2.heap.size := hg3.2
      have hg4 : g3 < wr.heap.size := by omega
      have hl4 : w2.heap.size < wr.heap.size := by omega
      have hst := not_step d.marks k hlt
      have hcl : ((d.marks.take k).map notM ++ d.marks.drop k).length = d.marks.length := by simp; omega
      obtain ⟨u0, v0, vf, _, _, _⟩ := hO.cellK rfl (i := k) (by rw [hcl]; exact hlt)
      have vf0 := vf k
      have hnm : notM d.marks[k] = if d.marks[k].length = 0 then [0] else [] := rfl
      generalize d.marks[k] = m at *
      generalize ((d.marks.take k).map notM ++ d.marks.drop k) = cur at *
      have hO1 := hO.set1 rfl (i := k) (x := []) KintF_nil
      have HO1 := Lib.hid hO1
      have HST := Lib.hid hst
      have HK := Lib.hid hK
      have HNM := Lib.hid hnm
      have HG3 := Lib.hid hg3
      clear hO hO1 hst hK hcl hn4 vf hBr hBwr hnm hg3
      by_cases hm : m.length = 0
      · have hm' : ((m.length : Int) == 0) = true := by simp [hm]
        have HM := Lib.hid hm
        clear hm
        have hbx := OwnS.box Kint 3 (wr.setCell ⟨g3, k, none⟩ (.slice none 0 0)) [.int .i64 0] 0 0 (fun b => b = wr.heap.size) (Nat.zero_le _) (by simp) ⟨rfl, by constructor <;> omega⟩
        have hel := KintF.mono (G := fun b => (B2 ≤ b ∧ b ≠ w2.heap.size) ∧ some b ≠ some g3) (fun b hb => ⟨⟨by omega, by omega⟩, fun e => by injection e with e; omega⟩) hbx.sliceF
        have hO2 := (HO1.out.alloc (.cells #[.int .i64 0] 3)).set1 rfl (i := k) (x := [0]) hel
        rw [World.setCell_alloc_past _ _ _ _ (by simp; omega), List.set_set] at hO2
        simp only [World.size_setCell] at hO2
        have HO2 := Lib.hid hO2
        clear hbx hel hO2
        go_wp2
        go_roundg (gk - 1)
        case measure => have := HG.out; omega
        case rel => exact ⟨k + 1, by go_num, by omega, by have := HG.out; omega, by
          rw [← HST.out, HNM.out, if_pos HM.out]; exact HO2.out, ((HK.out.setCell ⟨g3, k, none⟩ rfl _).setCell ⟨g3, k, none⟩ rfl _).alloc _⟩
      · have hm' : ((m.length : Int) == 0) = false := by rw [beq_eq_false_iff_ne]; omega
        have HM := Lib.hid hm
        clear hm
        go_wp2
        go_roundg (gk - 1)
        case measure => have := HG.out; omega
        case rel => exact ⟨k + 1, by go_num, by omega, by have := HG.out; omega, by
          rw [← HST.out, HNM.out, if_neg HM.out]; exact HO1.out, HK.out.setCell ⟨g3, k, none⟩ rfl _⟩
    · obtain rfl : k = d.marks.length := by omega
      have hge : ¬ ((d.marks.length : Int) < d.marks.length) := by omega
      rw [List.take_length, List.drop_length, List.append_nil] at hO
      have hq1 := (hBr.block _ hl1).trans HQ1.out
      obtain ⟨z0, z1, z2⟩ := cells3 hq1
      have z3 : ∀ j, wr.frozen? ⟨w.heap.size + 1, j, none⟩ = false := fun j => frozen_of_row wr _ j _ _ hq1
      have hl1' : w.heap.size + 1 < w2.heap.size := by omega
      have h12 := ((hX2.out.o1.bound).step (w1 := wr) fun b hb hl => (hK.block b (by omega) (by have := hb.1.2; have := hX2.out.h2; have := hg3.1; omega)).trans (hB3.block b hl))
      have h22 := ((hX2.out.o2.bound).step (w1 := wr) fun b hb hl => (hK.block b (by omega) (by have := hb.1.2; have := hg3.1; omega)).trans (hB3.block b hl))
      have hB1le := hX2.out.h1
      have H12 := Lib.hid h12
      have H22 := Lib.hid h22
      have HO := Lib.hid hO
      clear hO hq1 hn4 h12 h22 hK hX2
      go_wp2
      obtain ⟨u0, u1, u2, hBF, hoth⟩ := set3 wr (w.heap.size + 1) 25 _ _ _ (.slice a1 d.cls.length n1) (.slice a2 d.next.length n2) (.slice (some ⟨g3, 0, none⟩) d.marks.length n3) z0 z1 z2
      refine bodyPost_ret (v := .tuple #[dfaV ⟨a1, n1, a2, n2, some ⟨g3, 0, none⟩, n3⟩ ⟨d.cls, d.next, d.marks.map notM⟩, .int .i64 0]) (by simp [results, Tryz.results27, go_sem, u0, u1, u2, dfaV, dfaC]) rfl ⟨⟨a1, n1, a2, n2, some ⟨g3, 0, none⟩, n3⟩, by simp [dfaV, dfaC], ⟨?_, ?_, ?_⟩, hBwr.trans (hBF _ (by omega))⟩
      · exact ((H12.out.step fun b hb _ => hoth b (by have := hb.1.1; omega)).lower hBw.size).mono fun b hb => Nat.le_trans hBw.size hb.1.1
      · exact ((H22.out.step fun b hb _ => hoth b (by have := hb.1.1; have := hB2le; omega)).lower hBw.size).mono fun b hb => by have := hb.1.1; have := hBw.size; omega
      · rw [List.length_map]
        exact ((HO.out.step fun b hb _ => hoth b (by have := hb.1; omega)).lower hBw.size).mono fun b hb => by have := hb.1; have := hBw.size; omega
theorem c_pNot (h : DA) (d : Dfa) (F : Nat → Prop) (w : World) (hR : DfaR w F h d) :
    Calls Tryz.prog 27 #[dfaV h d] w fun e w' => ∃ h', e = .returned (.tuple #[dfaV h' (notB d).1, .int .i64 (notB d).2]) ∧ DfaO w' w.heap.size h' (notB d).1 ∧ Below w.heap.size w w' := by
  cases hr : rightB d with
  | true =>
    have : notB d = (⟨d.cls, d.next, d.marks.map notM⟩, 0) := by unfold notB; rw [if_pos hr]
    rw [this]
    exact c_not1 h d F w hR hr
  | false =>
    have : notB d = (noDfa, 182) := by unfold notB; rw [if_neg (by rw [hr]; simp)]
    rw [this]
    refine (c_not0 _ _ _ _ _ _ d F w hR.q hr).mono ?_
    rintro e w' ⟨rfl, hB⟩
    exact ⟨nilDA, rfl, noDfaO _ _, hB⟩
end Go.Proofs
end

section
set_option linter.unusedVariables false
set_option linter.unusedSimpArgs false
namespace Rp
open Go.Proofs Go.Shelf
abbrev maxC : Int := 1099511627776
def sizeI (s : BSet) : Int := ((bytesL s).length : Int)
theorem sizeI_rng (s : BSet) : 0 ≤ sizeI s ∧ sizeI s ≤ 256 := by
  unfold sizeI bytesL
  have := bytesTo_length s 256
  omega
def cntF (d : Dfa) (many : List Int) (l : List Int) (acc : Int) (k : Nat) : Int := min (acc + sizeI (d.cls.getD k 0#256) * many.getD (l.getD k 0).toNat 0) maxC
def cntRow (d : Dfa) (many : List Int) (l : List Int) (j : Nat) : Int := (List.range j).foldl (cntF d many l) 0
theorem cntRow_succ (d : Dfa) (many l : List Int) (j : Nat) : cntRow d many l (j + 1) = cntF d many l (cntRow d many l j) j := by
  unfold cntRow; rw [List.range_succ, List.foldl_append]; rfl
def cntStep (d : Dfa) (many : List Int) : List Int := d.next.map fun l => cntRow d many l l.length
def cnt0 (m : List Int) : Int := min (m.length : Int) 1
def cntAll (d : Dfa) : Nat → List Int
  | 0 => d.marks.map cnt0
  | n + 1 => cntStep d (cntAll d n)
/-- All within bounds. -/
def Bnd (l : List Int) : Prop := ∀ x ∈ l, 0 ≤ x ∧ x ≤ maxC
theorem Bnd.at {l : List Int} (h : Bnd l) (i : Nat) : 0 ≤ l.getD i 0 ∧ l.getD i 0 ≤ maxC := by
  rw [List.getD_eq_getElem?_getD]
  by_cases hi : i < l.length
  · rw [List.getElem?_eq_getElem hi]; exact h _ (List.getElem_mem hi)
  · rw [List.getElem?_eq_none (by omega)]; constructor <;> decide
theorem mul_rng {a b : Int} (h0 : 0 ≤ a) (h1 : a ≤ 256) (k0 : 0 ≤ b) (k1 : b ≤ maxC) : 0 ≤ a * b ∧ a * b ≤ 281474976710656 := by
  refine ⟨Int.mul_nonneg h0 k0, ?_⟩
  have := Int.mul_le_mul h1 k1 k0 (by omega)
  simp only [maxC] at this; omega
theorem cntRow_rng (d : Dfa) {many : List Int} (hm : Bnd many) (l : List Int) : ∀ j, 0 ≤ cntRow d many l j ∧ cntRow d many l j ≤ maxC
  | 0 => by constructor <;> simp [cntRow, maxC]
  | j + 1 => by
    have ih := cntRow_rng d hm l j
    rw [cntRow_succ]; unfold cntF
    have h1 := sizeI_rng (d.cls.getD j 0#256)
    have h2 := hm.at (l.getD j 0).toNat
    have h3 := mul_rng h1.1 h1.2 h2.1 h2.2
    simp only [maxC] at *
    omega
theorem cntAll_bnd (d : Dfa) : ∀ n, Bnd (cntAll d n)
  | 0 => by
    intro x hx
    obtain ⟨m, _, rfl⟩ := List.mem_map.1 hx
    unfold cnt0; simp only [maxC]; omega
  | n + 1 => by
    intro x hx
    obtain ⟨l, _, rfl⟩ := List.mem_map.1 hx
    exact cntRow_rng d (cntAll_bnd d n) l _
theorem cntAll_len {d : Dfa} (h : d.marks.length = d.next.length) : ∀ n, (cntAll d n).length = d.next.length
  | 0 => by simp [cntAll, h]
  | n + 1 => by simp [cntAll, cntStep]
def countB (d : Dfa) (n most : Int) : Int × Int := if rightB d = true then (if n < 0 ∨ n > 64 ∨ most < 0 ∨ most > maxC then (0, 2) else (min ((cntAll d n.toNat).getD 0 0) most, 0)) else (0, 182)
theorem fill_step {α β : Type} (f : α → β) (z : β) (xs : List α) (k : Nat) (h : k < xs.length) : ((xs.take k).map f ++ List.replicate (xs.length - k) z).set k (f xs[k]) = (xs.take (k + 1)).map f ++ List.replicate (xs.length - (k + 1)) z := by
  have hl : ((xs.take k).map f).length = k := by simp; omega
  have e : xs.length - k = (xs.length - (k + 1)) + 1 := by omega
  rw [List.set_append_right _ _ (by omega), hl, Nat.sub_self, e, List.replicate_succ, List.set_cons_zero, List.take_succ_eq_append_getElem h, List.map_append, List.append_assoc]
  rfl
theorem fill_mid {α β : Type} (f : α → β) (z : β) (xs : List α) (k : Nat) (h : k < xs.length) : (xs.take k).map f ++ List.replicate (xs.length - k) z = (xs.take k).map f ++ z :: List.replicate (xs.length - (k + 1)) z := by
  have e : xs.length - k = (xs.length - (k + 1)) + 1 := by omega
  rw [e, List.replicate_succ]
theorem mid_set {β : Type} (A B : List β) (x y : β) : (A ++ x :: B).set A.length y = A ++ y :: B := by
  rw [List.set_append_right _ _ (Nat.le_refl _), Nat.sub_self, List.set_cons_zero]
theorem fill_next {α β : Type} (f : α → β) (z : β) (xs : List α) (k : Nat) (h : k < xs.length) : (xs.take k).map f ++ f xs[k] :: List.replicate (xs.length - (k + 1)) z = (xs.take (k + 1)).map f ++ List.replicate (xs.length - (k + 1)) z := by
  rw [List.take_succ_eq_append_getElem h, List.map_append, List.append_assoc]; rfl
end Rp
end

section
set_option linter.unusedVariables false
set_option linter.unusedSimpArgs false
namespace Go.Proofs
open Go.RowKit Go.Shelf Rp Go.Maps
attribute [local go_sem] Oper.semAt_some
/-- What the loads of Count's inner round ask. -/
def SCn (g11 s b1 b5 o5 k4 g8 t : Nat) (nx cl mv : Value) (c : BSet) (w : World) : Prop :=
  w.cell? ⟨g11, s, none⟩ = some nx ∧ w.cell? ⟨b1, 0, none⟩ = some cl ∧ w.cell? ⟨b5, o5 + k4, none⟩ = some (u64 (wd c 0)) ∧ w.cell? ⟨b5, o5 + k4 + 1, none⟩ = some (u64 (wd c 1)) ∧ w.cell? ⟨b5, o5 + k4 + 2, none⟩ = some (u64 (wd c 2)) ∧ w.cell? ⟨b5, o5 + k4 + 3, none⟩ = some (u64 (wd c 3)) ∧ w.cell? ⟨g8, t, none⟩ = some mv
set_option maxRecDepth 100000 in
set_option maxHeartbeats 1600000 in
theorem c_count1 (A1 A2 A3 : Option Addr) (k1 k2 k3 : Nat) (d : Dfa) (n most : Int) (F : Nat → Prop) (w : World) (hq : DfaQ w F A1 k1 A2 k2 A3 k3 d) (hr : rightB d = true) (hn0 : 0 ≤ n) (hn1 : n ≤ 64) (hm0 : 0 ≤ most) (hm1 : most ≤ maxC) :
    Calls Tryz.prog 28 #[.agg #[.slice A1 d.cls.length k1, .slice A2 d.next.length k2, .slice A3 d.marks.length k3], .int .i64 n, .int .i64 most] w
      fun e w' => e = .returned (.tuple #[.int .i64 (min ((cntAll d n.toNat).getD 0 0) most), .int .i64 0]) ∧ Below w.heap.size w w' := by
  have hra := fun W' (hW' : Below w.heap.size w W') => (hq.below hW').right
  rw [hr] at hra
  have g1 : ¬ n < 0 := by omega
  have g2 : ¬ n > 64 := by omega
  have g3 : ¬ most < 0 := by omega
  have g4 : ¬ most > 1099511627776 := by simp only [maxC] at hm1; omega
  have hmi := run_make1 (P := Tryz.prog) 36 3 (.int .i64 0) 8 d.next.length Tryz.underlying36 info_int rfl (by have := right_len hr; omega) (by have := right_len hr; omega)
  go_enter Tryz.func28, Tryz.ntmps28
  go_wp2_with fail
  refine calls_name fun W0 hW0 => ?_
  have q0 : W0.heap[w.heap.size]? = some (.cells #[.slice A1 d.cls.length k1, .slice A2 d.next.length k2, .slice A3 d.marks.length k3] 25 (0, 0)) := by
    rw [← hW0]; exact World.alloc_heap_new w _
  have hE0 : Ext w W0 := by rw [← hW0]; exact (Ext.refl _).alloc _
  have hz0 : w.heap.size < W0.heap.size := by rw [← hW0]; simp
  clear hW0
  refine (hra W0 hE0.below).mono ?_
  rintro e w1 ⟨rfl, hB1⟩
  have hq0 := (hB1.block _ hz0).trans q0
  obtain ⟨c0, c1, c2⟩ := cells3 hq0
  have hBw := hE0.below.trans (hB1.mono hE0.size)
  have hl1 : w.heap.size < w1.heap.size := Nat.lt_of_lt_of_le hz0 hB1.size
  have HQ0 := Lib.hid hq0
  clear hra q0 hq0 hE0 hz0
  go_wp2
  have hlen := right_len hr
  have hml := hlen.2.2
  have hO0 := OwnS.made (enc := Value.int .i64) (ok := inI64) (h1 := fun _ => rfl) w1 3 w1.heap.size d.next.length (fun b => b = w1.heap.size) 0 (by constructor <;> omega) (Nat.le_refl _) rfl (by omega)
  refine wp_name fun W2 hW2 => ?_
  rw [hW2] at hO0
  have hB2 : Below w1.heap.size w1 W2 := by rw [← hW2]; exact (Below.refl _ _).alloc (Nat.le_refl _) _
  have hN : d.next.length ≤ 4000 := hlen.2.1
  have hNp : 0 < d.next.length := hlen.1
  have HML := Lib.hid hml
  clear hW2 hlen hml c0 c1 c2
  go_loopg [42] (d.marks.length + 1) (fun gk vk wr => ∃ (k : Nat), vk = .int .i64 (k : Int) ∧ k ≤ d.marks.length ∧ gk + k = d.marks.length + 1 ∧ OwnS Kint 3 wr w1.heap.size (fun b => b = w1.heap.size) (.slice (some ⟨w1.heap.size, 0, none⟩) d.next.length d.next.length) ((d.marks.take k).map cnt0 ++ List.replicate (d.marks.length - k) 0) ∧ Below w1.heap.size w1 wr)
  case atStart => exact ⟨0, rfl, Nat.zero_le _, by omega, by simp only [List.take_zero, List.map_nil, List.nil_append, Nat.sub_zero, HML.out]; exact hO0, hB2⟩
  case round =>
    obtain ⟨k, rfl, hk, hgk, hO, hB⟩ := hrel
    have HG := Lib.hid hgk
    clear hgk
    have hBr : Below w.heap.size w wr := hBw.trans (hB.mono hBw.size)
    obtain ⟨c0, c1, c2⟩ := cells3 ((hB.block _ hl1).trans HQ0.out)
    by_cases hlt : k < d.marks.length
    · have hlt' : (k : Int) < d.marks.length := by omega
      have hk0 : (0 : Int) ≤ k := by omega
      have hk1 : (k : Int) < d.next.length := by rw [← HML.out]; omega
      obtain ⟨b3, o3, B3, cp3, rfl, hF3, hb3, p3, hl3, hm3, _⟩ := S_slice (hq.s3.bound.step (w1 := wr) fun b _ hl => hBr.block b hl) hlt
      have hml4 : d.marks.length ≤ 4000 := by rw [HML.out]; exact hN
      have hst := fill_step cnt0 0 d.marks k hlt
      have hcl : ((d.marks.take k).map cnt0 ++ List.replicate (d.marks.length - k) (0 : Int)).length = d.marks.length := by simp; omega
      have hcn : cnt0 d.marks[k] = min (d.marks[k].length : Int) 1 := rfl
      generalize d.marks[k] = m at *
      generalize ((d.marks.take k).map cnt0 ++ List.replicate (d.marks.length - k) (0 : Int)) = cur at *
      obtain ⟨z, hz⟩ : ∃ z, cur[k]? = some z := ⟨_, List.getElem?_eq_getElem (by omega)⟩
      obtain ⟨u0, vf, hgl, _, _, _⟩ := hO.at1 hz
      have vf0 := vf k
      have hO1 := hO.set (enc := Value.int .i64) (i := k) (by omega) (x := min (m.length : Int) 1) (by constructor <;> omega)
      have HO1 := Lib.hid hO1
      have HST := Lib.hid hst
      have HCN := Lib.hid hcn
      have HB := Lib.hid hB
      clear hO hO1 hst hcn hcl hB hBr vf hz
      go_wp2
      go_roundg (gk - 1)
      case measure => have := HG.out; omega
      case rel => exact ⟨k + 1, by go_num, by omega, by have := HG.out; omega, by rw [← HST.out, HCN.out]; exact HO1.out, HB.out.setCell (Nat.le_refl _) _⟩
    · obtain rfl : k = d.marks.length := by omega
      have hge : ¬ ((d.marks.length : Int) < d.marks.length) := by omega
      rw [List.take_length, Nat.sub_self, List.replicate_zero, List.append_nil] at hO
      have hO0 : OwnS Kint 3 wr w1.heap.size (fun b => b = w1.heap.size) (.slice (some ⟨w1.heap.size, 0, none⟩) d.next.length d.next.length) (cntAll d 0) := hO
      have HO := Lib.hid hO0
      have HB := Lib.hid hB
      have hzr : w1.heap.size < wr.heap.size := (hO.lt w1.heap.size rfl).2
      clear hO hO0 hB hBr c0 c1 c2
      obtain ⟨wa, rfl⟩ : ∃ x : World, x = wr := ⟨_, rfl⟩
      obtain ⟨ga, rfl⟩ : ∃ x : Nat, x = gk := ⟨_, rfl⟩
      go_wp2
      go_loopg [8, 55] (n.toNat + 1) (fun gk v8 vj wr => ∃ (j g : Nat), vj = .int .i64 (j : Int) ∧ v8 = .slice (some ⟨g, 0, none⟩) d.next.length d.next.length ∧ j ≤ n.toNat ∧ gk + j = n.toNat + 1 ∧ OwnS Kint 3 wr w1.heap.size (fun b => b = g) (.slice (some ⟨g, 0, none⟩) d.next.length d.next.length) (cntAll d j) ∧ Below w1.heap.size w1 wr ∧ w1.heap.size < wr.heap.size)
      case atStart => exact ⟨0, w1.heap.size, rfl, rfl, Nat.zero_le _, by omega, HO.out, HB.out, hzr⟩
      case round =>
        obtain ⟨j, g, rfl, rfl, hj, hgk, hO, hB, hzr⟩ := hrel
        have HG2 := Lib.hid hgk
        clear hgk
        have hBr : Below w.heap.size w wr := hBw.trans (hB.mono hBw.size)
        obtain ⟨c0, c1, c2⟩ := cells3 ((hB.block _ hl1).trans HQ0.out)
        have hwl : w.heap.size < wr.heap.size := by omega
        by_cases hlt : j < n.toNat
        · have hlt' : (j : Int) < n := by omega
          have hj0 : (0 : Int) ≤ j := by omega
          have HO := Lib.hid hO
          have HB := Lib.hid hB
          have HBr := Lib.hid hBr
          clear hO hB hBr
          obtain ⟨wb, rfl⟩ : ∃ x : World, x = wr := ⟨_, rfl⟩
          obtain ⟨gb, rfl⟩ : ∃ x : Nat, x = gk := ⟨_, rfl⟩
          have hO5 := OwnS.made (enc := Value.int .i64) (ok := inI64) (h1 := fun _ => rfl) wb 3 wb.heap.size d.next.length (fun b => b = wb.heap.size) 0 (by constructor <;> omega) (Nat.le_refl _) rfl (by omega)
          go_wp2
          refine wp_name fun W5 hW5 => ?_
          rw [hW5] at hO5
          have hB5 : Below wb.heap.size wb W5 := by rw [← hW5]; exact (Below.refl _ _).alloc (Nat.le_refl _) _
          have hz5 : wb.heap.size < W5.heap.size := by rw [← hW5]; simp
          have hgl : g < wb.heap.size ∧ w1.heap.size ≤ g := ⟨(HO.out.lt g rfl).2, (HO.out.lt g rfl).1⟩
          have HO5 := Lib.hid hO5
          have HGL := Lib.hid hgl
          clear hW5 hO5 c0 c1 c2 hgl
          go_loopg [64] (d.next.length + 1) (fun gk vs wr => ∃ (s : Nat), vs = .int .i64 (s : Int) ∧ s ≤ d.next.length ∧ gk + s = d.next.length + 1 ∧ OwnS Kint 3 wr wb.heap.size (fun b => b = wb.heap.size) (.slice (some ⟨wb.heap.size, 0, none⟩) d.next.length d.next.length) ((d.next.take s).map (fun l => cntRow d (cntAll d j) l l.length) ++ List.replicate (d.next.length - s) 0) ∧ Kp (fun b => b = wb.heap.size) W5 wr)
          case atStart => exact ⟨0, rfl, Nat.zero_le _, by omega, by simp only [List.take_zero, List.map_nil, List.nil_append, Nat.sub_zero]; exact HO5.out, Kp.refl _ _⟩
          case round =>
            obtain ⟨s, rfl, hs, hgk, hO, hK⟩ := hrel
            have HG3 := Lib.hid hgk
            clear hgk
            have hB1r : Below w1.heap.size w1 wr := HB.out.trans ((hB5.mono (by omega)).trans (hK.below (by omega) (fun i hi e => by omega)))
            have hBwr : Below w.heap.size w wr := hBw.trans (hB1r.mono hBw.size)
            obtain ⟨c0, c1, c2⟩ := cells3 ((hB1r.block _ hl1).trans HQ0.out)
            have hzr5 := hK.size
            by_cases hls : s < d.next.length
            · have hls' : (s : Int) < d.next.length := by omega
              have hs0 : (0 : Int) ≤ s := by omega
              obtain ⟨b2, o2, B2, cp2, rfl, hF2, hb2, p2, hl2, hm2, hS2⟩ := S_slice (hq.s2.bound.step (w1 := wr) fun b _ hl => hBwr.block b hl) hls
              have hrow := right_row hr hls
              have hfm := fill_mid (fun l => cntRow d (cntAll d j) l l.length) 0 d.next s hls
              have hfn := fill_next (fun l => cntRow d (cntAll d j) l l.length) 0 d.next s hls
              have hAl : ((d.next.take s).map (fun l => cntRow d (cntAll d j) l l.length)).length = s := by simp; omega
              have hz0 : cntRow d (cntAll d j) d.next[s] 0 = 0 := rfl
              rw [hfm, ← hz0] at hO
              try dsimp only at hfn
              generalize (d.next.take s).map (fun l => cntRow d (cntAll d j) l l.length) = AA at *
              have HFN := Lib.hid hfn
              have HROW := Lib.hid hrow
              have HAL := Lib.hid hAl
              have HS2 := Lib.hid hS2
              have HO3 := Lib.hid hO
              have HK3 := Lib.hid hK
              have HB1r := Lib.hid hB1r
              have HBwr := Lib.hid hBwr
              have hwl3 : w.heap.size < wr.heap.size := by omega
              clear hfm hfn hrow hAl hz0 hS2 hO hK hB1r hBwr
              obtain ⟨wc, rfl⟩ : ∃ x : World, x = wr := ⟨_, rfl⟩
              obtain ⟨gc, rfl⟩ : ∃ x : Nat, x = gk := ⟨_, rfl⟩
              go_wp2
              go_loopg [71] (d.next[s].length + 1) (fun gk vk wr => ∃ (k : Nat), vk = .int .i64 (k : Int) ∧ k ≤ d.next[s].length ∧ gk + k = d.next[s].length + 1 ∧ OwnS Kint 3 wr wb.heap.size (fun b => b = wb.heap.size) (.slice (some ⟨wb.heap.size, 0, none⟩) d.next.length d.next.length) (AA ++ cntRow d (cntAll d j) d.next[s] k :: List.replicate (d.next.length - (s + 1)) 0) ∧ Kp (fun b => b = wb.heap.size) W5 wr)
              case atStart => exact ⟨0, rfl, Nat.zero_le _, by omega, HO3.out, HK3.out⟩
              case round =>
                obtain ⟨k, rfl, hk, hgk, hO, hK⟩ := hrel
                have HG4 := Lib.hid hgk
                clear hgk
                have hB1r : Below w1.heap.size w1 wr := HB.out.trans ((hB5.mono (by omega)).trans (hK.below (by omega) (fun i hi e => by omega)))
                have hBwr : Below w.heap.size w wr := hBw.trans (hB1r.mono hBw.size)
                obtain ⟨c0, c1, c2⟩ := cells3 ((hB1r.block _ hl1).trans HQ0.out)
                have hzr5 := hK.size
                by_cases hlk : k < d.next[s].length
                · have hk1 : k < d.cls.length := by rw [← HROW.out.1]; exact hlk
                  have hk0 : (0 : Int) ≤ k := by omega
                  have hlk' : (k : Int) < d.next[s].length := by omega
                  have hk2 : (k : Int) < d.cls.length := by omega
                  have hk3 : (k : Int) + 1 ≤ 256 := by have := (right_parts_facts hr).2.2.1; omega
                  obtain ⟨b4, o4, rfl, hF4, hb4, e4, _⟩ := S_int (HS2.out.step (w1 := wr) fun b hb _ => (hBwr.block b hb.2).trans (HBwr.out.block b hb.2).symm) hlk
                  obtain ⟨b5, o5, rfl, hF5, hb5, e50, e51, e52, e53⟩ := S_set (hq.s1.bound.step (w1 := wr) fun b _ hl => hBwr.block b hl) hk1
                  have hrng := HROW.out.2 _ (List.getElem_mem hlk)
                  obtain ⟨t, ht⟩ : ∃ t : Nat, d.next[s][k] = (t : Int) := ⟨(d.next[s][k]).toNat, by omega⟩
                  rw [ht] at e4 hrng
                  have ht0 : (0 : Int) ≤ t := by omega
                  have ht1 : (t : Int) < d.next.length := by omega
                  have hmn := (cntAll_bnd d j).at t
                  have hml := cntAll_len HML.out j
                  have hmt : (cntAll d j)[t]? = some ((cntAll d j).getD t 0) := by rw [List.getD_eq_getElem?_getD, List.getElem?_eq_getElem (by omega)]; rfl
                  have hOm := (HO.out.step (w1 := W5) fun b _ hl => hB5.block b hl).keep hK (fun b hb _ e => by have := HGL.out.1; omega)
                  obtain ⟨em, _, _, _, _, _⟩ := hOm.at1 hmt
                  have hac := cntRow_rng d (cntAll_bnd d j) d.next[s] k
                  have hsuc := cntRow_succ d (cntAll d j) d.next[s] k
                  have hcf : cntF d (cntAll d j) d.next[s] (cntRow d (cntAll d j) d.next[s] k) k = min (cntRow d (cntAll d j) d.next[s] k + sizeI d.cls[k] * (cntAll d j).getD t 0) maxC := by
                    unfold cntF
                    rw [List.getD_eq_getElem?_getD (l := d.cls), List.getElem?_eq_getElem hk1, List.getD_eq_getElem?_getD (l := d.next[s]), List.getElem?_eq_getElem hlk, Option.getD_some, Option.getD_some, ht, Int.toNat_natCast]
                  rw [hcf] at hsuc
                  have hxs : (AA ++ cntRow d (cntAll d j) d.next[s] k :: List.replicate (d.next.length - (s + 1)) (0 : Int))[s]? = some (cntRow d (cntAll d j) d.next[s] k) := by
                    rw [List.getElem?_append_right (by rw [HAL.out]; exact Nat.le_refl _), HAL.out, Nat.sub_self]; rfl
                  obtain ⟨ea, vf, hgl, _, _, _⟩ := hO.at1 hxs
                  have hAB : (AA ++ cntRow d (cntAll d j) d.next[s] k :: List.replicate (d.next.length - (s + 1)) (0 : Int)).length = d.next.length := by simp [HAL.out]; omega
                  have hsz := sizeI_rng d.cls[k]
                  have hmul := mul_rng hsz.1 hsz.2 hmn.1 hmn.2
                  have hms := fun y => mid_set AA (List.replicate (d.next.length - (s + 1)) (0 : Int)) (cntRow d (cntAll d j) d.next[s] k) y
                  rw [HAL.out] at hms
                  have hcl := fun W' => c_size d.cls[k] W'
                  have hb5' : b5 < w1.heap.size := by have := hF5.2; omega
                  simp only [maxC] at hac hmn hmul hsuc
                  have hmul2 : IntKind.i64.wrap (sizeI d.cls[k] * (cntAll d j).getD t 0) = sizeI d.cls[k] * (cntAll d j).getD t 0 := IntWalk.i64_in _ (by omega)
                  have hadd2 : IntKind.i64.wrap (cntRow d (cntAll d j) d.next[s] k + sizeI d.cls[k] * (cntAll d j).getD t 0) = cntRow d (cntAll d j) d.next[s] k + sizeI d.cls[k] * (cntAll d j).getD t 0 := IntWalk.i64_in _ (by omega)
                  have hmin : inI64 (min (cntRow d (cntAll d j) d.next[s] k + sizeI d.cls[k] * (cntAll d j).getD t 0) 1099511627776) := by constructor <;> omega
                  have hsetv : ∀ W', Below wr.heap.size wr W' → OwnS Kint 3 (W'.setCell ⟨wb.heap.size, s, none⟩ (.int .i64 (min (cntRow d (cntAll d j) d.next[s] k + sizeI d.cls[k] * (cntAll d j).getD t 0) 1099511627776))) wb.heap.size (fun b => b = wb.heap.size) (.slice (some ⟨wb.heap.size, 0, none⟩) d.next.length d.next.length) (AA ++ cntRow d (cntAll d j) d.next[s] (k + 1) :: List.replicate (d.next.length - (s + 1)) 0) := fun W' hW' => by
                    have h1 := (hO.below hW').set (enc := Value.int .i64) (i := s) (by rw [hAB]; exact hls) hmin
                    rw [hms] at h1
                    rw [hsuc]
                    exact h1
                  have HSV := Lib.hid hsetv
                  have HSUC := Lib.hid hsuc
                  have HKF := Lib.hid hK
                  have hS : SCn wb.heap.size s w.heap.size b5 o5 (k * 4) g t (.int .i64 (cntRow d (cntAll d j) d.next[s] k)) (.slice (some ⟨b5, o5, none⟩) d.cls.length k1) (.int .i64 ((cntAll d j).getD t 0)) d.cls[k] wr.drew := ⟨ea, c0, e50, e51, e52, e53, em⟩
                  have hff := vf s
                  have hwB : wb.heap.size < wr.heap.size := hgl
                  have hgW : g < wr.heap.size := by have := HGL.out.1; omega
                  have hwW : w.heap.size < wr.heap.size := by omega
                  have hb5W : b5 < wr.heap.size := hb5
                  have hsz2 : sizeI d.cls[k] = ((bytesL d.cls[k]).length : Int) := rfl
                  clear hsetv hsuc hK hms hxs hAB hOm hmt hml hcf ht hrng hO hB1r hBwr vf hmin ea c0 e50 e51 e52 e53 em c1 c2 hac hmn hmul hsz hF4 hF5 hgl
                  generalize cntRow d (cntAll d j) d.next[s] k = ac at *
                  generalize (cntAll d j).getD t 0 = mt at *
                  rw [← hsz2] at hcl
                  generalize sizeI d.cls[k] = sk at *
                  clear hsz2
                  generalize d.cls[k] = ck at *
                  go_wp2
                  refine wp_region_noPanic (wp_region_T (SCn wb.heap.size s w.heap.size b5 o5 (k * 4) g t (.int .i64 ac) (.slice (some ⟨b5, o5, none⟩) d.cls.length k1) (.int .i64 mt) ck) [5, 7, 10, 15] (by kernel_rfl) ?_)
                  refine wpAnyT_takeY (i := 0) (v := ?v0_1) rfl (by kernel_rfl) (by kernel_rfl) (by kernel_rfl) (fun _ _ _ h => h) (by rfl) ?hy0_1 ?r0_1
                  case hy0_1 => (intro w; go_simp; try (with_reducible rfl))
                  case r0_1 =>
                  try simp only [Act.put, List.setIfInBounds_toArray, List.set_cons_zero, List.set_cons_succ]
                  refine wpAnyT_takeY (i := 1) (v := ?v1_2) rfl (by kernel_rfl) (by kernel_rfl) (by kernel_rfl) (fun _ _ _ h => h) (by rfl) ?hy1_2 ?r1_2
                  case hy1_2 => (intro w; go_simp; try (with_reducible rfl))
                  case r1_2 =>
                  try simp only [Act.put, List.setIfInBounds_toArray, List.set_cons_zero, List.set_cons_succ]
                  refine wpAnyT_takeY (i := 2) (v := ?v2_3) rfl (by kernel_rfl) (by kernel_rfl) (by kernel_rfl) (fun _ _ _ h => h) (by rfl) ?hy2_3 ?r2_3
                  case hy2_3 => (intro w; go_simp; try (with_reducible rfl))
                  case r2_3 =>
                  try simp only [Act.put, List.setIfInBounds_toArray, List.set_cons_zero, List.set_cons_succ]
                  refine wpAnyT_takeY (i := 3) (v := ?v3_4) rfl (by kernel_rfl) (by kernel_rfl) (by kernel_rfl) (fun _ _ _ h => h) (by rfl) ?hy3_4 ?r3_4
                  case hy3_4 => (intro w; go_simp; try (with_reducible rfl))
                  case r3_4 =>
                  try simp only [Act.put, List.setIfInBounds_toArray, List.set_cons_zero, List.set_cons_succ]
                  refine wpAnyT_takeY (i := 4) (v := ?v4_5) rfl (by kernel_rfl) (by kernel_rfl) (by kernel_rfl) (fun _ _ _ h => h) (by rfl) ?hy4_5 ?r4_5
                  case hy4_5 => (intro w; go_simp; try (with_reducible rfl))
                  case r4_5 =>
                  try simp only [Act.put, List.setIfInBounds_toArray, List.set_cons_zero, List.set_cons_succ]
                  refine wpAnyT_takeY (i := 6) (v := ?v6_6) rfl (by kernel_rfl) (by kernel_rfl) (by kernel_rfl) (fun _ _ _ h => h) (by rfl) ?hy6_6 ?r6_6
                  case hy6_6 => (intro w; go_simp; try (with_reducible rfl))
                  case r6_6 =>
                  try simp only [Act.put, List.setIfInBounds_toArray, List.set_cons_zero, List.set_cons_succ]
                  refine wpAnyT_takeY (i := 8) (v := ?v8_7) rfl (by kernel_rfl) (by kernel_rfl) (by kernel_rfl) (fun _ _ _ h => h) (by rfl) ?hy8_7 ?r8_7
                  case hy8_7 => (intro w; go_simp; try (with_reducible rfl))
                  case r8_7 =>
                  try simp only [Act.put, List.setIfInBounds_toArray, List.set_cons_zero, List.set_cons_succ]
                  refine wpAnyT_takeY (i := 12) (v := ?v12_8) rfl (by kernel_rfl) (by kernel_rfl) (by kernel_rfl) (fun _ _ _ h => h) (by rfl) ?hy12_8 ?r12_8
                  case hy12_8 => (intro w; go_simp; try (with_reducible rfl))
                  case r12_8 =>
                  try simp only [Act.put, List.setIfInBounds_toArray, List.set_cons_zero, List.set_cons_succ]
                  refine wpAnyT_takeY (i := 13) (v := ?v13_9) rfl (by kernel_rfl) (by kernel_rfl) (by kernel_rfl) (fun _ _ _ h => h) (by rfl) ?hy13_9 ?r13_9
                  case hy13_9 => (intro w; go_simp; try (with_reducible rfl))
                  case r13_9 =>
                  try simp only [Act.put, List.setIfInBounds_toArray, List.set_cons_zero, List.set_cons_succ]
                  refine wpAnyT_takeY (i := 14) (v := ?v14_10) rfl (by kernel_rfl) (by kernel_rfl) (by kernel_rfl) (fun _ _ _ h => h) (by rfl) ?hy14_10 ?r14_10
                  case hy14_10 => (intro w; go_simp; try (with_reducible rfl))
                  case r14_10 =>
                  try simp only [Act.put, List.setIfInBounds_toArray, List.set_cons_zero, List.set_cons_succ]
                  refine wpAnyT_take (i := 5) (v := ?v5_11) rfl rfl (by kernel_rfl) (by kernel_rfl) (by kernel_rfl) (fun _ _ _ h => h) (by rfl) hS ?hy5_11 ?r5_11
                  case hy5_11 => (intro w hSw; obtain ⟨s1, s2, s3, s4, s5, s6, s7⟩ := hSw; (try dsimp only at hSw); go_simp; try (with_reducible rfl))
                  case r5_11 =>
                  try simp only [Act.put, List.setIfInBounds_toArray, List.set_cons_zero, List.set_cons_succ]
                  refine wpAnyT_take (i := 7) (v := ?v7_12) rfl rfl (by kernel_rfl) (by kernel_rfl) (by kernel_rfl) (fun _ _ _ h => h) (by rfl) hS ?hy7_12 ?r7_12
                  case hy7_12 => (intro w hSw; obtain ⟨s1, s2, s3, s4, s5, s6, s7⟩ := hSw; (try dsimp only at hSw); go_simp; try (with_reducible rfl))
                  case r7_12 =>
                  try simp only [Act.put, List.setIfInBounds_toArray, List.set_cons_zero, List.set_cons_succ]
                  refine wpAnyT_takeY (i := 9) (v := ?v9_13) rfl (by kernel_rfl) (by kernel_rfl) (by kernel_rfl) (fun _ _ _ h => h) (by rfl) ?hy9_13 ?r9_13
                  case hy9_13 => (intro w; go_simp; try (with_reducible rfl))
                  case r9_13 =>
                  try simp only [Act.put, List.setIfInBounds_toArray, List.set_cons_zero, List.set_cons_succ]
                  refine wpAnyT_take (i := 10) (v := ?v10_14) rfl rfl (by kernel_rfl) (by kernel_rfl) (by kernel_rfl) (fun _ _ _ h => h) (by rfl) hS ?hy10_14 ?r10_14
                  case hy10_14 => (intro w hSw; obtain ⟨s1, s2, s3, s4, s5, s6, s7⟩ := hSw; (try dsimp only at hSw); go_simp; try (with_reducible rfl))
                  case r10_14 =>
                  try simp only [Act.put, List.setIfInBounds_toArray, List.set_cons_zero, List.set_cons_succ]
                  refine wpAnyT_take (i := 15) (v := ?v15_15) rfl rfl (by kernel_rfl) (by kernel_rfl) (by kernel_rfl) (fun _ _ _ h => h) (by rfl) hS ?hy15_15 ?r15_15
                  case hy15_15 => (intro w hSw; obtain ⟨s1, s2, s3, s4, s5, s6, s7⟩ := hSw; (try dsimp only at hSw); go_simp; try (with_reducible rfl))
                  case r15_15 =>
                  try simp only [Act.put, List.setIfInBounds_toArray, List.set_cons_zero, List.set_cons_succ]
                  refine wpAnyT_one (i := 11) rfl (by kernel_rfl) (by rfl) (fun K hK => ?_)
                  go_simp
                  refine (hcl _).mono ?_
                  rintro e w9 ⟨rfl, hE9⟩
                  try dsimp only
                  have hE9' : Below wr.heap.size wr w9 := (Below.refl _ wr).drew.trans hE9.below
                  have hff9 := (hE9'.frozen (p := ⟨wb.heap.size, s, none⟩) hwB).trans hff
                  have hea9 := bcellS hE9' hS.1
                  refine hK _ _ (fun _ h => ⟨bcellS hE9.below h.1, bcellS hE9.below h.2.1, bcellS hE9.below h.2.2.1, bcellS hE9.below h.2.2.2.1, bcellS hE9.below h.2.2.2.2.1, bcellS hE9.below h.2.2.2.2.2.1, bcellS hE9.below h.2.2.2.2.2.2⟩) ?_
                  clear hK K
                  try simp only [Act.put, List.setIfInBounds_toArray, List.set_cons_zero, List.set_cons_succ]
                  refine wpAnyT_takeY (i := 16) (v := ?v16_16) rfl (by kernel_rfl) (by kernel_rfl) (by kernel_rfl) (fun _ _ _ h => h) (by rfl) ?hy16_16 ?r16_16
                  case hy16_16 => (intro w; go_simp; try (with_reducible rfl))
                  case r16_16 =>
                  try simp only [Act.put, List.setIfInBounds_toArray, List.set_cons_zero, List.set_cons_succ]
                  refine wpAnyT_takeY (i := 17) (v := ?v17_17) rfl (by kernel_rfl) (by kernel_rfl) (by kernel_rfl) (fun _ _ _ h => h) (by rfl) ?hy17_17 ?r17_17
                  case hy17_17 => (intro w; go_simp; try (with_reducible rfl))
                  case r17_17 =>
                  try simp only [Act.put, List.setIfInBounds_toArray, List.set_cons_zero, List.set_cons_succ]
                  refine wpAnyT_takeY (i := 18) (v := ?v18_18) rfl (by kernel_rfl) (by kernel_rfl) (by kernel_rfl) (fun _ _ _ h => h) (by rfl) ?hy18_18 ?r18_18
                  case hy18_18 => (intro w; go_simp; try (with_reducible rfl))
                  case r18_18 =>
                  try simp only [Act.put, List.setIfInBounds_toArray, List.set_cons_zero, List.set_cons_succ]
                  refine wpAnyT_takeY (i := 19) (v := ?v19_19) rfl (by kernel_rfl) (by kernel_rfl) (by kernel_rfl) (fun _ _ _ h => h) (by rfl) ?hy19_19 ?r19_19
                  case hy19_19 => (intro w; go_simp; try (with_reducible rfl))
                  case r19_19 =>
                  try simp only [Act.put, List.setIfInBounds_toArray, List.set_cons_zero, List.set_cons_succ]
                  refine wpAnyT_one (i := 20) rfl (by kernel_rfl) (by rfl) (fun K hK => ?_)
                  go_simp
                  refine hK _ _ (no_need (by kernel_rfl)) ?_
                  clear hK K
                  try simp only [Act.put, List.setIfInBounds_toArray, List.set_cons_zero, List.set_cons_succ]
                  refine wpAnyT_done (by kernel_rfl) ?_ _
                  refine NoPanic.normal ?_
                  go_wp2
                  go_roundg (gk - 1)
                  case measure => have := HG4.out; omega
                  case rel => exact ⟨k + 1, by go_num, by omega, by have := HG4.out; omega, HSV.out w9 hE9', (HKF.out.trans (.of_below hE9')).setCell ⟨wb.heap.size, s, none⟩ rfl _⟩
                · obtain rfl : k = d.next[s].length := by omega
                  have hge : ¬ ((d.next[s].length : Int) < d.next[s].length) := by omega
                  have hO' := hO
                  rw [HFN.out] at hO'
                  have HOF := Lib.hid hO'
                  have HKF := Lib.hid hK
                  clear hO hO' hK hB1r hBwr c0 c1 c2
                  go_wp2
                  go_roundg (gc - 1)
                  case measure => have := HG3.out; omega
                  case rel => exact ⟨s + 1, by go_num, by omega, by have := HG3.out; omega, HOF.out, HKF.out⟩
            · obtain rfl : s = d.next.length := by omega
              have hge : ¬ ((d.next.length : Int) < d.next.length) := by omega
              rw [List.take_length, Nat.sub_self, List.replicate_zero, List.append_nil] at hO
              have hO' : OwnS Kint 3 wr wb.heap.size (fun b => b = wb.heap.size) (.slice (some ⟨wb.heap.size, 0, none⟩) d.next.length d.next.length) (cntAll d (j + 1)) := hO
              have HOF := Lib.hid hO'
              have hj1 : j ≤ 64 := by omega
              clear hO hO' hK hBwr
              go_wp2
              go_roundg (gb - 1)
              case measure => have := HG2.out; omega
              case rel => exact ⟨j + 1, wb.heap.size, by go_num, rfl, by omega, by have := HG2.out; omega, HOF.out.lower (by omega), hB1r, by omega⟩
        · have hge : ¬ (j : Int) < n := by omega
          obtain rfl : j = n.toNat := by omega
          have hcl := cntAll_len HML.out n.toNat
          have hb0 := (cntAll_bnd d n.toNat).at 0
          obtain ⟨e0, _, _, _, _, _⟩ := hO.at1 (i := 0) (x := (cntAll d n.toNat).getD 0 0) (by rw [List.getD_eq_getElem?_getD, List.getElem?_eq_getElem (by omega)]; rfl)
          have hN0 : (0 : Int) < d.next.length := by omega
          obtain ⟨c, hc⟩ : ∃ c, (cntAll d n.toNat).getD 0 0 = c := ⟨_, rfl⟩
          rw [hc] at e0 hb0
          have HC := Lib.hid hc
          clear hc
          have HO := Lib.hid hO
          have HCL := Lib.hid hcl
          clear hO hcl hB
          go_wp2
          go_ret2
          exact ⟨by rw [← List.getD_eq_getElem?_getD, HC.out]; rfl, hBr⟩
set_option maxRecDepth 100000 in
set_option maxHeartbeats 1600000 in
theorem c_count0 (A1 A2 A3 : Option Addr) (k1 k2 k3 : Nat) (d : Dfa) (n most : Int) (F : Nat → Prop) (w : World) (hq : DfaQ w F A1 k1 A2 k2 A3 k3 d) (hr : rightB d = false) :
    Calls Tryz.prog 28 #[.agg #[.slice A1 d.cls.length k1, .slice A2 d.next.length k2, .slice A3 d.marks.length k3], .int .i64 n, .int .i64 most] w
      fun e w' => e = .returned (.tuple #[.int .i64 0, .int .i64 182]) ∧ Below w.heap.size w w' := by
  have hra := fun W' (hW' : Below w.heap.size w W') => (hq.below hW').right
  rw [hr] at hra
  go_enter Tryz.func28, Tryz.ntmps28
  go_wp2_with fail
  refine calls_name fun W0 hW0 => ?_
  have hE0 : Ext w W0 := by rw [← hW0]; exact (Ext.refl _).alloc _
  clear hW0
  refine (hra W0 hE0.below).mono ?_
  rintro e w1 ⟨rfl, hB1⟩
  clear hra
  go_wp2
  go_ret2
  exact ⟨rfl, hE0.below.trans (hB1.mono hE0.size)⟩
set_option maxRecDepth 100000 in
set_option maxHeartbeats 1600000 in
theorem c_count2 (A1 A2 A3 : Option Addr) (k1 k2 k3 : Nat) (d : Dfa) (n most : Int) (F : Nat → Prop) (w : World) (hq : DfaQ w F A1 k1 A2 k2 A3 k3 d) (hr : rightB d = true) (hb : n < 0 ∨ n > 64 ∨ most < 0 ∨ most > maxC) :
    Calls Tryz.prog 28 #[.agg #[.slice A1 d.cls.length k1, .slice A2 d.next.length k2, .slice A3 d.marks.length k3], .int .i64 n, .int .i64 most] w
      fun e w' => e = .returned (.tuple #[.int .i64 0, .int .i64 2]) ∧ Below w.heap.size w w' := by
  have hra := fun W' (hW' : Below w.heap.size w W') => (hq.below hW').right
  rw [hr] at hra
  simp only [maxC] at hb
  go_enter Tryz.func28, Tryz.ntmps28
  go_wp2_with fail
  refine calls_name fun W0 hW0 => ?_
  have hE0 : Ext w W0 := by rw [← hW0]; exact (Ext.refl _).alloc _
  clear hW0
  refine (hra W0 hE0.below).mono ?_
  rintro e w1 ⟨rfl, hB1⟩
  have HB := Lib.hid hb
  clear hra hb
  by_cases h1 : n < 0
  · clear HB
    go_wp2
    go_ret2
    exact ⟨rfl, hE0.below.trans (hB1.mono hE0.size)⟩
  · by_cases h2 : n > 64
    · clear HB
      go_wp2
      go_ret2
      exact ⟨rfl, hE0.below.trans (hB1.mono hE0.size)⟩
    · by_cases h3 : most < 0
      · clear HB
        go_wp2
        go_ret2
        exact ⟨rfl, hE0.below.trans (hB1.mono hE0.size)⟩
      · have h4 : most > 1099511627776 := by have := HB.out; omega
        clear HB
        go_wp2
        go_ret2
        exact ⟨rfl, hE0.below.trans (hB1.mono hE0.size)⟩
theorem c_pCount (h : DA) (d : Dfa) (n most : Int) (F : Nat → Prop) (w : World) (hR : DfaR w F h d) :
    Calls Tryz.prog 28 #[dfaV h d, .int .i64 n, .int .i64 most] w fun e w' => e = .returned (.tuple #[.int .i64 (countB d n most).1, .int .i64 (countB d n most).2]) ∧ Below w.heap.size w w' := by
  cases hr : rightB d with
  | false =>
    have e : countB d n most = (0, 182) := by unfold countB; rw [if_neg (by rw [hr]; simp)]
    rw [e]
    exact c_count0 _ _ _ _ _ _ d n most F w hR.q hr
  | true =>
    by_cases hb : n < 0 ∨ n > 64 ∨ most < 0 ∨ most > maxC
    · have e : countB d n most = (0, 2) := by unfold countB; rw [if_pos hr, if_pos hb]
      rw [e]
      exact c_count2 _ _ _ _ _ _ d n most F w hR.q hr hb
    · have e : countB d n most = (min ((cntAll d n.toNat).getD 0 0) most, 0) := by unfold countB; rw [if_pos hr, if_neg hb]
      rw [e]
      exact c_count1 _ _ _ _ _ _ d n most F w hR.q hr (by omega) (by omega) (by omega) (by omega)
end Go.Proofs
end
