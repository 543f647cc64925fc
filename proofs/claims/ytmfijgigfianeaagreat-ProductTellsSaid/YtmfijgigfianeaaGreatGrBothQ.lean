/- Where a pair of states leads to, and its marks. -/
import Derived.Test.YtmfijgigfianeaaGreatGrJoin
set_option linter.unusedVariables false
set_option linter.unusedSimpArgs false
namespace Rp
open Go Go.RowKit Go.Proofs
theorem stayB_start (B : Nat) (W : World) : (∀ b o, b < B → W.drew.cell? ⟨b, o, none⟩ = W.cell? ⟨b, o, none⟩) ∧ (∀ b o, b < B → W.drew.frozen? ⟨b, o, none⟩ = W.frozen? ⟨b, o, none⟩) := ⟨fun _ _ _ => rfl, fun _ _ _ => rfl⟩
theorem stayB_set {B : Nat} {W w1 : World} (h : (∀ b o, b < B → w1.cell? ⟨b, o, none⟩ = W.cell? ⟨b, o, none⟩) ∧ (∀ b o, b < B → w1.frozen? ⟨b, o, none⟩ = W.frozen? ⟨b, o, none⟩)) (p : Addr) (hp : B ≤ p.block) (u : Value) :
    (∀ b o, b < B → (w1.setCell p u).cell? ⟨b, o, none⟩ = W.cell? ⟨b, o, none⟩) ∧ (∀ b o, b < B → (w1.setCell p u).frozen? ⟨b, o, none⟩ = W.frozen? ⟨b, o, none⟩) :=
  ⟨fun b o hb => (World.cell?_of_block (w := w1) (a := ⟨b, o, none⟩) (Below.heap_setCell w1 p u b (by omega))).trans (h.1 b o hb), fun b o hb => (World.frozen?_of_block (w := w1) (a := ⟨b, o, none⟩) (Below.heap_setCell w1 p u b (by omega))).trans (h.2 b o hb)⟩
theorem OwnS.box {α : Type} (d : Kd α) (e : TypeId) (W : World) (cs : List Value) (x : α) (base : Nat) (F : Nat → Prop) (hb : base ≤ W.heap.size) (hF : F W.heap.size) (hp : d.R (W.alloc (.cells cs.toArray e)) (fun b => F b ∧ some b ≠ some W.heap.size) x cs) :
    OwnS d e (W.alloc (.cells cs.toArray e)) base F (.slice (some ⟨W.heap.size, 0, none⟩) 1 1) [x] := by
  have hl := d.len hp
  refine ⟨fun k hk => by simp [Value.ownBlock] at hk; subst hk; exact hF, cs, ⟨by simp [hl], .inr ⟨W.heap.size, 1, cs.toArray, rfl, hb, World.alloc_heap_new W _, by simp, by simp [maxLen], by simp [hl], by simp [← hl]⟩⟩, Reps.one hp hl⟩
end Rp
namespace Go.Proofs
open Go.RowKit Go.Shelf Rp
attribute [local go_sem] Oper.semAt_some
set_option maxRecDepth 100000 in
set_option maxHeartbeats 1600000 in
theorem c_next (A2 B2 O1 O2 : Option Addr) (n2 k2 m2 l2 c1 c2 q1 q2 : Nat) (x0 x2 x3 x5 x6 x9 : Value) (an bn : List (List Int)) (ol tl r1 r2 : List Int) (pa pb k d1 d2 : Nat) (y1 y2 : Int) (F : Nat → Prop) (w : World)
    (hsa : Kints.S w F A2 an) (hsb : Kints.S w F B2 bn) (hso : Kint.S w F O1 ol) (hst : Kint.S w F O2 tl)
    (hpa : an[pa]? = some r1) (hpb : bn[pb]? = some r2) (hk1 : ol[k]? = some (d1 : Int)) (hk2 : tl[k]? = some (d2 : Int)) (hy1 : r1[d1]? = some y1) (hy2 : r2[d2]? = some y2) :
    Calls Tryz.prog 49 #[.agg #[x0, .slice A2 an.length n2, x2, x3, .slice B2 bn.length k2, x5, x6, .slice O1 ol.length m2, .slice O2 tl.length l2, x9], .agg #[.int .i64 (pa : Int), .int .i64 (pb : Int)], .int .i64 (k : Int)] w
      fun e w' => e = .returned (.agg #[.int .i64 y1, .int .i64 y2]) ∧ Ext w w' := by
  obtain ⟨ha, rfl⟩ := List.getElem?_eq_some_iff.1 hpa
  obtain ⟨hb, rfl⟩ := List.getElem?_eq_some_iff.1 hpb
  obtain ⟨ho, eo⟩ := List.getElem?_eq_some_iff.1 hk1
  obtain ⟨ht, et⟩ := List.getElem?_eq_some_iff.1 hk2
  obtain ⟨hr1, rfl⟩ := List.getElem?_eq_some_iff.1 hy1
  obtain ⟨hr2, rfl⟩ := List.getElem?_eq_some_iff.1 hy2
  obtain ⟨b1, o1, A', p1, rfl, _, hb1, e1, _, _, hS1⟩ := S_slice hsa ha
  obtain ⟨b2, o2, B', p2, rfl, _, hb2, e2, _, _, hS2⟩ := S_slice hsb hb
  obtain ⟨b3, o3, rfl, _, hb3, e3, _⟩ := S_int hso ho
  obtain ⟨b4, o4, rfl, _, hb4, e4, _⟩ := S_int hst ht
  obtain ⟨b5, o5, rfl, _, hb5, e5, _⟩ := S_int hS1 hr1
  obtain ⟨b6, o6, rfl, _, hb6, e6, _⟩ := S_int hS2 hr2
  rw [eo] at e3
  rw [et] at e4
  have g0 : (0 : Int) ≤ pa := by omega
  have g1 : (pa : Int) < an.length := by omega
  have g2 : (0 : Int) ≤ pb := by omega
  have g3 : (pb : Int) < bn.length := by omega
  have g4 : (0 : Int) ≤ k := by omega
  have g5 : (k : Int) < ol.length := by omega
  have g6 : (k : Int) < tl.length := by omega
  have g7 : (0 : Int) ≤ d1 := by omega
  have g8 : (d1 : Int) < an[pa].length := by omega
  have g9 : (0 : Int) ≤ d2 := by omega
  have g10 : (d2 : Int) < bn[pb].length := by omega
  generalize an[pa][d1] = z1 at *
  generalize bn[pb][d2] = z2 at *
  generalize an[pa] = r1 at *
  generalize bn[pb] = r2 at *
  clear hpa hpb hk1 hk2 hsa hsb hso hst hS1 hS2
  go_enter Tryz.func49, Tryz.ntmps49
  go_wp2_with fail
  refine wp_name fun W1 hW1 => ?_
  have hq0 : W1.heap[w.heap.size]? = some (.cells #[x0, .slice (some ⟨b1, o1, none⟩) an.length n2, x2, x3, .slice (some ⟨b2, o2, none⟩) bn.length k2, x5, x6, .slice (some ⟨b3, o3, none⟩) ol.length m2, .slice (some ⟨b4, o4, none⟩) tl.length l2, x9] 90 (0, 0)) := by
    rw [← hW1]; exact (Below.heap_alloc _ _ _ (by simp; omega)).trans ((Below.heap_alloc _ _ _ (by simp)).trans (World.alloc_heap_new w _))
  have q0 : W1.cell? ⟨w.heap.size + 1, 0, none⟩ = some (.int .i64 (pa : Int)) := by rw [← hW1]; clear hW1; go_simp
  have q1 : W1.cell? ⟨w.heap.size + 1, 1, none⟩ = some (.int .i64 (pb : Int)) := by rw [← hW1]; clear hW1; go_simp
  have q2 : W1.cell? ⟨w.heap.size + 1 + 1, 0, none⟩ = some (.int .i64 0) := by rw [← hW1]; clear hW1; go_simp
  have q3 : W1.cell? ⟨w.heap.size + 1 + 1, 1, none⟩ = some (.int .i64 0) := by rw [← hW1]; clear hW1; go_simp
  have q4 : ∀ j, W1.frozen? ⟨w.heap.size + 1 + 1, j, none⟩ = false := by intro j; rw [← hW1]; clear hW1; go_simp
  have hE1 : Ext w W1 := by rw [← hW1]; exact (((Ext.refl _).alloc _).alloc _).alloc _
  clear hW1
  have q5 := cell_of_row W1 _ 1 _ _ _ hq0
  have q6 := cell_of_row W1 _ 4 _ _ _ hq0
  have q7 := cell_of_row W1 _ 7 _ _ _ hq0
  have q8 := cell_of_row W1 _ 8 _ _ _ hq0
  simp at q5 q6 q7 q8
  have f1 := bcellS hE1.below e1
  have f2 := bcellS hE1.below e2
  have f3 := bcellS hE1.below e3
  have f4 := bcellS hE1.below e4
  have f5 := bcellS hE1.below e5
  have f6 := bcellS hE1.below e6
  have h1 : b1 < w.heap.size + 1 + 1 := by omega
  have h2 : b2 < w.heap.size + 1 + 1 := by omega
  have h3 : b3 < w.heap.size + 1 + 1 := by omega
  have h4 : b4 < w.heap.size + 1 + 1 := by omega
  have h5 : b5 < w.heap.size + 1 + 1 := by omega
  have h6 : b6 < w.heap.size + 1 + 1 := by omega
  have h7 : w.heap.size < w.heap.size + 1 + 1 := by omega
  have h8 : w.heap.size + 1 < w.heap.size + 1 + 1 := by omega
  clear hq0 e1 e2 e3 e4 e5 e6 hb1 hb2 hb3 hb4 hb5 hb6
  go_region_held3 (fun w' => (∀ b o, b < w.heap.size + 1 + 1 → w'.cell? ⟨b, o, none⟩ = W1.cell? ⟨b, o, none⟩) ∧ (∀ b o, b < w.heap.size + 1 + 1 → w'.frozen? ⟨b, o, none⟩ = W1.frozen? ⟨b, o, none⟩))
    (first | exact stayB_start _ _ | exact stayB_set (stayB_set ‹_› _ (by simp) _) _ (by simp) _)
    ((first | fail))
  go_wp2
  have u0 : (((W1.setCell ⟨w.heap.size + 1 + 1, 0, none⟩ (.int .i64 z1)).setCell ⟨w.heap.size + 1 + 1, 1, none⟩ (.int .i64 z2)).drew).cell? ⟨w.heap.size + 1 + 1, 0, none⟩ = some (.int .i64 z1) := by go_simp
  have u1 : (((W1.setCell ⟨w.heap.size + 1 + 1, 0, none⟩ (.int .i64 z1)).setCell ⟨w.heap.size + 1 + 1, 1, none⟩ (.int .i64 z2)).drew).cell? ⟨w.heap.size + 1 + 1, 1, none⟩ = some (.int .i64 z2) := by go_simp
  exact bodyPost_ret (v := .agg #[.int .i64 z1, .int .i64 z2]) (by simp [results, Tryz.results49, go_sem, u0, u1]) rfl ⟨rfl, ((hE1.setCell (by simp; omega) _).setCell (by simp; omega) _).drew⟩

set_option maxRecDepth 100000 in
set_option maxHeartbeats 1600000 in
theorem c_marks1 (A3 B3 : Option Addr) (n3 k3 : Nat) (x0 x1 x3 x4 x6 x7 x8 : Value) (am bm : List (List Int)) (r1 r2 : List Int) (pa pb : Nat) (F : Nat → Prop) (w : World)
    (hsa : Kints.S w F A3 am) (hsb : Kints.S w F B3 bm) (hpa : am[pa]? = some r1) (hpb : bm[pb]? = some r2) :
    Calls Tryz.prog 50 #[.agg #[x0, x1, .slice A3 am.length n3, x3, x4, .slice B3 bm.length k3, x6, x7, x8, .func (.func 61) #[] #[]], .agg #[.int .i64 (pa : Int), .int .i64 (pb : Int)]] w
      fun e w' => ∃ v, e = .returned v ∧ OwnS Kint 3 w' w.heap.size (fun b => w.heap.size ≤ b) v (if sayB 1 (decide (0 < r1.length)) (decide (0 < r2.length)) then [0] else []) ∧ Ext w w' := by
  obtain ⟨ha, rfl⟩ := List.getElem?_eq_some_iff.1 hpa
  obtain ⟨hb, rfl⟩ := List.getElem?_eq_some_iff.1 hpb
  obtain ⟨b1, o1, A', p1, rfl, _, hb1, e1, _, _, hS1⟩ := S_slice hsa ha
  obtain ⟨b2, o2, B', p2, rfl, _, hb2, e2, _, _, hS2⟩ := S_slice hsb hb
  have g0 : (0 : Int) ≤ pa := by omega
  have g1 : (pa : Int) < am.length := by omega
  have g2 : (0 : Int) ≤ pb := by omega
  have g3 : (pb : Int) < bm.length := by omega
  generalize am[pa] = r1 at *
  generalize bm[pb] = r2 at *
  have hcall := fun w' => c_is1 (decide (0 < r1.length)) (decide (0 < r2.length)) w'
  clear hpa hpb hsa hsb hS1 hS2
  generalize hsay : sayB 1 (decide (0 < r1.length)) (decide (0 < r2.length)) = say at *
  clear hsay
  cases say
  case false =>
    go_enter Tryz.func50, Tryz.ntmps50
    go_wp2_with fail
    refine wp_name fun W1 hW1 => ?_
    have hq0 : W1.heap[w.heap.size]? = some (.cells #[x0, x1, .slice (some ⟨b1, o1, none⟩) am.length n3, x3, x4, .slice (some ⟨b2, o2, none⟩) bm.length k3, x6, x7, x8, .func (.func 61) #[] #[]] 90 (0, 0)) := by
      rw [← hW1]; exact (Below.heap_alloc _ _ _ (by simp)).trans (World.alloc_heap_new w _)
    have q0 : W1.cell? ⟨w.heap.size + 1, 0, none⟩ = some (.int .i64 (pa : Int)) := by rw [← hW1]; clear hW1; go_simp
    have q1 : W1.cell? ⟨w.heap.size + 1, 1, none⟩ = some (.int .i64 (pb : Int)) := by rw [← hW1]; clear hW1; go_simp
    have hE1 : Ext w W1 := by rw [← hW1]; exact ((Ext.refl _).alloc _).alloc _
    have hz1 : w.heap.size + 1 < W1.heap.size := by rw [← hW1]; simp
    clear hW1
    have q5 := cell_of_row W1 _ 2 _ _ _ hq0
    have q6 := cell_of_row W1 _ 5 _ _ _ hq0
    have q7 := cell_of_row W1 _ 9 _ _ _ hq0
    simp at q5 q6 q7
    have f1 := bcellS hE1.below e1
    have f2 := bcellS hE1.below e2
    have h1 : b1 < W1.heap.size := by omega
    have h2 : b2 < W1.heap.size := by omega
    have h7 : w.heap.size < W1.heap.size := by omega
    clear hq0 e1 e2 hb1 hb2
    go_region_held3 (fun w' => (∀ b o, b < W1.heap.size → w'.cell? ⟨b, o, none⟩ = W1.cell? ⟨b, o, none⟩) ∧ (∀ b o, b < W1.heap.size → w'.frozen? ⟨b, o, none⟩ = W1.frozen? ⟨b, o, none⟩))
      (first | exact stayB_start _ _ | assumption)
      ((first | ((with_reducible refine (hcall _).mono ?_); rintro e w9 ⟨rfl, rfl⟩)))
    go_wp2
    go_ret
    exact ⟨_, rfl, OwnS.nil _ _ _ _ _, hE1.drew⟩
  case true =>
    go_enter Tryz.func50, Tryz.ntmps50
    go_wp2_with fail
    refine wp_name fun W1 hW1 => ?_
    have hq0 : W1.heap[w.heap.size]? = some (.cells #[x0, x1, .slice (some ⟨b1, o1, none⟩) am.length n3, x3, x4, .slice (some ⟨b2, o2, none⟩) bm.length k3, x6, x7, x8, .func (.func 61) #[] #[]] 90 (0, 0)) := by
      rw [← hW1]; exact (Below.heap_alloc _ _ _ (by simp)).trans (World.alloc_heap_new w _)
    have q0 : W1.cell? ⟨w.heap.size + 1, 0, none⟩ = some (.int .i64 (pa : Int)) := by rw [← hW1]; clear hW1; go_simp
    have q1 : W1.cell? ⟨w.heap.size + 1, 1, none⟩ = some (.int .i64 (pb : Int)) := by rw [← hW1]; clear hW1; go_simp
    have hE1 : Ext w W1 := by rw [← hW1]; exact ((Ext.refl _).alloc _).alloc _
    have hz1 : w.heap.size + 1 < W1.heap.size := by rw [← hW1]; simp
    clear hW1
    have q5 := cell_of_row W1 _ 2 _ _ _ hq0
    have q6 := cell_of_row W1 _ 5 _ _ _ hq0
    have q7 := cell_of_row W1 _ 9 _ _ _ hq0
    simp at q5 q6 q7
    have f1 := bcellS hE1.below e1
    have f2 := bcellS hE1.below e2
    have h1 : b1 < W1.heap.size := by omega
    have h2 : b2 < W1.heap.size := by omega
    have h7 : w.heap.size < W1.heap.size := by omega
    clear hq0 e1 e2 hb1 hb2
    go_region_held3 (fun w' => (∀ b o, b < W1.heap.size → w'.cell? ⟨b, o, none⟩ = W1.cell? ⟨b, o, none⟩) ∧ (∀ b o, b < W1.heap.size → w'.frozen? ⟨b, o, none⟩ = W1.frozen? ⟨b, o, none⟩))
      (first | exact stayB_start _ _ | assumption)
      ((first | ((with_reducible refine (hcall _).mono ?_); rintro e w9 ⟨rfl, rfl⟩)))
    go_wp2
    go_ret
    exact ⟨_, rfl, OwnS.box Kint 3 W1.drew [.int .i64 0] 0 w.heap.size _ hE1.size hE1.size ⟨rfl, by constructor <;> omega⟩, hE1.drew.alloc _⟩

set_option maxRecDepth 100000 in
set_option maxHeartbeats 1600000 in
theorem c_marks2 (A3 B3 : Option Addr) (n3 k3 : Nat) (x0 x1 x3 x4 x6 x7 x8 : Value) (am bm : List (List Int)) (r1 r2 : List Int) (pa pb : Nat) (F : Nat → Prop) (w : World)
    (hsa : Kints.S w F A3 am) (hsb : Kints.S w F B3 bm) (hpa : am[pa]? = some r1) (hpb : bm[pb]? = some r2) :
    Calls Tryz.prog 50 #[.agg #[x0, x1, .slice A3 am.length n3, x3, x4, .slice B3 bm.length k3, x6, x7, x8, .func (.func 62) #[] #[]], .agg #[.int .i64 (pa : Int), .int .i64 (pb : Int)]] w
      fun e w' => ∃ v, e = .returned v ∧ OwnS Kint 3 w' w.heap.size (fun b => w.heap.size ≤ b) v (if sayB 2 (decide (0 < r1.length)) (decide (0 < r2.length)) then [0] else []) ∧ Ext w w' := by
  obtain ⟨ha, rfl⟩ := List.getElem?_eq_some_iff.1 hpa
  obtain ⟨hb, rfl⟩ := List.getElem?_eq_some_iff.1 hpb
  obtain ⟨b1, o1, A', p1, rfl, _, hb1, e1, _, _, hS1⟩ := S_slice hsa ha
  obtain ⟨b2, o2, B', p2, rfl, _, hb2, e2, _, _, hS2⟩ := S_slice hsb hb
  have g0 : (0 : Int) ≤ pa := by omega
  have g1 : (pa : Int) < am.length := by omega
  have g2 : (0 : Int) ≤ pb := by omega
  have g3 : (pb : Int) < bm.length := by omega
  generalize am[pa] = r1 at *
  generalize bm[pb] = r2 at *
  have hcall := fun w' => c_is2 (decide (0 < r1.length)) (decide (0 < r2.length)) w'
  clear hpa hpb hsa hsb hS1 hS2
  generalize hsay : sayB 2 (decide (0 < r1.length)) (decide (0 < r2.length)) = say at *
  clear hsay
  cases say
  case false =>
    go_enter Tryz.func50, Tryz.ntmps50
    go_wp2_with fail
    refine wp_name fun W1 hW1 => ?_
    have hq0 : W1.heap[w.heap.size]? = some (.cells #[x0, x1, .slice (some ⟨b1, o1, none⟩) am.length n3, x3, x4, .slice (some ⟨b2, o2, none⟩) bm.length k3, x6, x7, x8, .func (.func 62) #[] #[]] 90 (0, 0)) := by
      rw [← hW1]; exact (Below.heap_alloc _ _ _ (by simp)).trans (World.alloc_heap_new w _)
    have q0 : W1.cell? ⟨w.heap.size + 1, 0, none⟩ = some (.int .i64 (pa : Int)) := by rw [← hW1]; clear hW1; go_simp
    have q1 : W1.cell? ⟨w.heap.size + 1, 1, none⟩ = some (.int .i64 (pb : Int)) := by rw [← hW1]; clear hW1; go_simp
    have hE1 : Ext w W1 := by rw [← hW1]; exact ((Ext.refl _).alloc _).alloc _
    have hz1 : w.heap.size + 1 < W1.heap.size := by rw [← hW1]; simp
    clear hW1
    have q5 := cell_of_row W1 _ 2 _ _ _ hq0
    have q6 := cell_of_row W1 _ 5 _ _ _ hq0
    have q7 := cell_of_row W1 _ 9 _ _ _ hq0
    simp at q5 q6 q7
    have f1 := bcellS hE1.below e1
    have f2 := bcellS hE1.below e2
    have h1 : b1 < W1.heap.size := by omega
    have h2 : b2 < W1.heap.size := by omega
    have h7 : w.heap.size < W1.heap.size := by omega
    clear hq0 e1 e2 hb1 hb2
    go_region_held3 (fun w' => (∀ b o, b < W1.heap.size → w'.cell? ⟨b, o, none⟩ = W1.cell? ⟨b, o, none⟩) ∧ (∀ b o, b < W1.heap.size → w'.frozen? ⟨b, o, none⟩ = W1.frozen? ⟨b, o, none⟩))
      (first | exact stayB_start _ _ | assumption)
      ((first | ((with_reducible refine (hcall _).mono ?_); rintro e w9 ⟨rfl, rfl⟩)))
    go_wp2
    go_ret
    exact ⟨_, rfl, OwnS.nil _ _ _ _ _, hE1.drew⟩
  case true =>
    go_enter Tryz.func50, Tryz.ntmps50
    go_wp2_with fail
    refine wp_name fun W1 hW1 => ?_
    have hq0 : W1.heap[w.heap.size]? = some (.cells #[x0, x1, .slice (some ⟨b1, o1, none⟩) am.length n3, x3, x4, .slice (some ⟨b2, o2, none⟩) bm.length k3, x6, x7, x8, .func (.func 62) #[] #[]] 90 (0, 0)) := by
      rw [← hW1]; exact (Below.heap_alloc _ _ _ (by simp)).trans (World.alloc_heap_new w _)
    have q0 : W1.cell? ⟨w.heap.size + 1, 0, none⟩ = some (.int .i64 (pa : Int)) := by rw [← hW1]; clear hW1; go_simp
    have q1 : W1.cell? ⟨w.heap.size + 1, 1, none⟩ = some (.int .i64 (pb : Int)) := by rw [← hW1]; clear hW1; go_simp
    have hE1 : Ext w W1 := by rw [← hW1]; exact ((Ext.refl _).alloc _).alloc _
    have hz1 : w.heap.size + 1 < W1.heap.size := by rw [← hW1]; simp
    clear hW1
    have q5 := cell_of_row W1 _ 2 _ _ _ hq0
    have q6 := cell_of_row W1 _ 5 _ _ _ hq0
    have q7 := cell_of_row W1 _ 9 _ _ _ hq0
    simp at q5 q6 q7
    have f1 := bcellS hE1.below e1
    have f2 := bcellS hE1.below e2
    have h1 : b1 < W1.heap.size := by omega
    have h2 : b2 < W1.heap.size := by omega
    have h7 : w.heap.size < W1.heap.size := by omega
    clear hq0 e1 e2 hb1 hb2
    go_region_held3 (fun w' => (∀ b o, b < W1.heap.size → w'.cell? ⟨b, o, none⟩ = W1.cell? ⟨b, o, none⟩) ∧ (∀ b o, b < W1.heap.size → w'.frozen? ⟨b, o, none⟩ = W1.frozen? ⟨b, o, none⟩))
      (first | exact stayB_start _ _ | assumption)
      ((first | ((with_reducible refine (hcall _).mono ?_); rintro e w9 ⟨rfl, rfl⟩)))
    go_wp2
    go_ret
    exact ⟨_, rfl, OwnS.box Kint 3 W1.drew [.int .i64 0] 0 w.heap.size _ hE1.size hE1.size ⟨rfl, by constructor <;> omega⟩, hE1.drew.alloc _⟩

set_option maxRecDepth 100000 in
set_option maxHeartbeats 1600000 in
theorem c_marks3 (A3 B3 : Option Addr) (n3 k3 : Nat) (x0 x1 x3 x4 x6 x7 x8 : Value) (am bm : List (List Int)) (r1 r2 : List Int) (pa pb : Nat) (F : Nat → Prop) (w : World)
    (hsa : Kints.S w F A3 am) (hsb : Kints.S w F B3 bm) (hpa : am[pa]? = some r1) (hpb : bm[pb]? = some r2) :
    Calls Tryz.prog 50 #[.agg #[x0, x1, .slice A3 am.length n3, x3, x4, .slice B3 bm.length k3, x6, x7, x8, .func (.func 63) #[] #[]], .agg #[.int .i64 (pa : Int), .int .i64 (pb : Int)]] w
      fun e w' => ∃ v, e = .returned v ∧ OwnS Kint 3 w' w.heap.size (fun b => w.heap.size ≤ b) v (if sayB 3 (decide (0 < r1.length)) (decide (0 < r2.length)) then [0] else []) ∧ Ext w w' := by
  obtain ⟨ha, rfl⟩ := List.getElem?_eq_some_iff.1 hpa
  obtain ⟨hb, rfl⟩ := List.getElem?_eq_some_iff.1 hpb
  obtain ⟨b1, o1, A', p1, rfl, _, hb1, e1, _, _, hS1⟩ := S_slice hsa ha
  obtain ⟨b2, o2, B', p2, rfl, _, hb2, e2, _, _, hS2⟩ := S_slice hsb hb
  have g0 : (0 : Int) ≤ pa := by omega
  have g1 : (pa : Int) < am.length := by omega
  have g2 : (0 : Int) ≤ pb := by omega
  have g3 : (pb : Int) < bm.length := by omega
  generalize am[pa] = r1 at *
  generalize bm[pb] = r2 at *
  have hcall := fun w' => c_is3 (decide (0 < r1.length)) (decide (0 < r2.length)) w'
  clear hpa hpb hsa hsb hS1 hS2
  generalize hsay : sayB 3 (decide (0 < r1.length)) (decide (0 < r2.length)) = say at *
  clear hsay
  cases say
  case false =>
    go_enter Tryz.func50, Tryz.ntmps50
    go_wp2_with fail
    refine wp_name fun W1 hW1 => ?_
    have hq0 : W1.heap[w.heap.size]? = some (.cells #[x0, x1, .slice (some ⟨b1, o1, none⟩) am.length n3, x3, x4, .slice (some ⟨b2, o2, none⟩) bm.length k3, x6, x7, x8, .func (.func 63) #[] #[]] 90 (0, 0)) := by
      rw [← hW1]; exact (Below.heap_alloc _ _ _ (by simp)).trans (World.alloc_heap_new w _)
    have q0 : W1.cell? ⟨w.heap.size + 1, 0, none⟩ = some (.int .i64 (pa : Int)) := by rw [← hW1]; clear hW1; go_simp
    have q1 : W1.cell? ⟨w.heap.size + 1, 1, none⟩ = some (.int .i64 (pb : Int)) := by rw [← hW1]; clear hW1; go_simp
    have hE1 : Ext w W1 := by rw [← hW1]; exact ((Ext.refl _).alloc _).alloc _
    have hz1 : w.heap.size + 1 < W1.heap.size := by rw [← hW1]; simp
    clear hW1
    have q5 := cell_of_row W1 _ 2 _ _ _ hq0
    have q6 := cell_of_row W1 _ 5 _ _ _ hq0
    have q7 := cell_of_row W1 _ 9 _ _ _ hq0
    simp at q5 q6 q7
    have f1 := bcellS hE1.below e1
    have f2 := bcellS hE1.below e2
    have h1 : b1 < W1.heap.size := by omega
    have h2 : b2 < W1.heap.size := by omega
    have h7 : w.heap.size < W1.heap.size := by omega
    clear hq0 e1 e2 hb1 hb2
    go_region_held3 (fun w' => (∀ b o, b < W1.heap.size → w'.cell? ⟨b, o, none⟩ = W1.cell? ⟨b, o, none⟩) ∧ (∀ b o, b < W1.heap.size → w'.frozen? ⟨b, o, none⟩ = W1.frozen? ⟨b, o, none⟩))
      (first | exact stayB_start _ _ | assumption)
      ((first | ((with_reducible refine (hcall _).mono ?_); rintro e w9 ⟨rfl, rfl⟩)))
    go_wp2
    go_ret
    exact ⟨_, rfl, OwnS.nil _ _ _ _ _, hE1.drew⟩
  case true =>
    go_enter Tryz.func50, Tryz.ntmps50
    go_wp2_with fail
    refine wp_name fun W1 hW1 => ?_
    have hq0 : W1.heap[w.heap.size]? = some (.cells #[x0, x1, .slice (some ⟨b1, o1, none⟩) am.length n3, x3, x4, .slice (some ⟨b2, o2, none⟩) bm.length k3, x6, x7, x8, .func (.func 63) #[] #[]] 90 (0, 0)) := by
      rw [← hW1]; exact (Below.heap_alloc _ _ _ (by simp)).trans (World.alloc_heap_new w _)
    have q0 : W1.cell? ⟨w.heap.size + 1, 0, none⟩ = some (.int .i64 (pa : Int)) := by rw [← hW1]; clear hW1; go_simp
    have q1 : W1.cell? ⟨w.heap.size + 1, 1, none⟩ = some (.int .i64 (pb : Int)) := by rw [← hW1]; clear hW1; go_simp
    have hE1 : Ext w W1 := by rw [← hW1]; exact ((Ext.refl _).alloc _).alloc _
    have hz1 : w.heap.size + 1 < W1.heap.size := by rw [← hW1]; simp
    clear hW1
    have q5 := cell_of_row W1 _ 2 _ _ _ hq0
    have q6 := cell_of_row W1 _ 5 _ _ _ hq0
    have q7 := cell_of_row W1 _ 9 _ _ _ hq0
    simp at q5 q6 q7
    have f1 := bcellS hE1.below e1
    have f2 := bcellS hE1.below e2
    have h1 : b1 < W1.heap.size := by omega
    have h2 : b2 < W1.heap.size := by omega
    have h7 : w.heap.size < W1.heap.size := by omega
    clear hq0 e1 e2 hb1 hb2
    go_region_held3 (fun w' => (∀ b o, b < W1.heap.size → w'.cell? ⟨b, o, none⟩ = W1.cell? ⟨b, o, none⟩) ∧ (∀ b o, b < W1.heap.size → w'.frozen? ⟨b, o, none⟩ = W1.frozen? ⟨b, o, none⟩))
      (first | exact stayB_start _ _ | assumption)
      ((first | ((with_reducible refine (hcall _).mono ?_); rintro e w9 ⟨rfl, rfl⟩)))
    go_wp2
    go_ret
    exact ⟨_, rfl, OwnS.box Kint 3 W1.drew [.int .i64 0] 0 w.heap.size _ hE1.size hE1.size ⟨rfl, by constructor <;> omega⟩, hE1.drew.alloc _⟩

set_option maxRecDepth 100000 in
set_option maxHeartbeats 1600000 in
theorem c_marks4 (A3 B3 : Option Addr) (n3 k3 : Nat) (x0 x1 x3 x4 x6 x7 x8 : Value) (am bm : List (List Int)) (r1 r2 : List Int) (pa pb : Nat) (F : Nat → Prop) (w : World)
    (hsa : Kints.S w F A3 am) (hsb : Kints.S w F B3 bm) (hpa : am[pa]? = some r1) (hpb : bm[pb]? = some r2) :
    Calls Tryz.prog 50 #[.agg #[x0, x1, .slice A3 am.length n3, x3, x4, .slice B3 bm.length k3, x6, x7, x8, .func (.func 64) #[] #[]], .agg #[.int .i64 (pa : Int), .int .i64 (pb : Int)]] w
      fun e w' => ∃ v, e = .returned v ∧ OwnS Kint 3 w' w.heap.size (fun b => w.heap.size ≤ b) v (if sayB 4 (decide (0 < r1.length)) (decide (0 < r2.length)) then [0] else []) ∧ Ext w w' := by
  obtain ⟨ha, rfl⟩ := List.getElem?_eq_some_iff.1 hpa
  obtain ⟨hb, rfl⟩ := List.getElem?_eq_some_iff.1 hpb
  obtain ⟨b1, o1, A', p1, rfl, _, hb1, e1, _, _, hS1⟩ := S_slice hsa ha
  obtain ⟨b2, o2, B', p2, rfl, _, hb2, e2, _, _, hS2⟩ := S_slice hsb hb
  have g0 : (0 : Int) ≤ pa := by omega
  have g1 : (pa : Int) < am.length := by omega
  have g2 : (0 : Int) ≤ pb := by omega
  have g3 : (pb : Int) < bm.length := by omega
  generalize am[pa] = r1 at *
  generalize bm[pb] = r2 at *
  have hcall := fun w' => c_is4 (decide (0 < r1.length)) (decide (0 < r2.length)) w'
  clear hpa hpb hsa hsb hS1 hS2
  generalize hsay : sayB 4 (decide (0 < r1.length)) (decide (0 < r2.length)) = say at *
  clear hsay
  cases say
  case false =>
    go_enter Tryz.func50, Tryz.ntmps50
    go_wp2_with fail
    refine wp_name fun W1 hW1 => ?_
    have hq0 : W1.heap[w.heap.size]? = some (.cells #[x0, x1, .slice (some ⟨b1, o1, none⟩) am.length n3, x3, x4, .slice (some ⟨b2, o2, none⟩) bm.length k3, x6, x7, x8, .func (.func 64) #[] #[]] 90 (0, 0)) := by
      rw [← hW1]; exact (Below.heap_alloc _ _ _ (by simp)).trans (World.alloc_heap_new w _)
    have q0 : W1.cell? ⟨w.heap.size + 1, 0, none⟩ = some (.int .i64 (pa : Int)) := by rw [← hW1]; clear hW1; go_simp
    have q1 : W1.cell? ⟨w.heap.size + 1, 1, none⟩ = some (.int .i64 (pb : Int)) := by rw [← hW1]; clear hW1; go_simp
    have hE1 : Ext w W1 := by rw [← hW1]; exact ((Ext.refl _).alloc _).alloc _
    have hz1 : w.heap.size + 1 < W1.heap.size := by rw [← hW1]; simp
    clear hW1
    have q5 := cell_of_row W1 _ 2 _ _ _ hq0
    have q6 := cell_of_row W1 _ 5 _ _ _ hq0
    have q7 := cell_of_row W1 _ 9 _ _ _ hq0
    simp at q5 q6 q7
    have f1 := bcellS hE1.below e1
    have f2 := bcellS hE1.below e2
    have h1 : b1 < W1.heap.size := by omega
    have h2 : b2 < W1.heap.size := by omega
    have h7 : w.heap.size < W1.heap.size := by omega
    clear hq0 e1 e2 hb1 hb2
    go_region_held3 (fun w' => (∀ b o, b < W1.heap.size → w'.cell? ⟨b, o, none⟩ = W1.cell? ⟨b, o, none⟩) ∧ (∀ b o, b < W1.heap.size → w'.frozen? ⟨b, o, none⟩ = W1.frozen? ⟨b, o, none⟩))
      (first | exact stayB_start _ _ | assumption)
      ((first | ((with_reducible refine (hcall _).mono ?_); rintro e w9 ⟨rfl, rfl⟩)))
    go_wp2
    go_ret
    exact ⟨_, rfl, OwnS.nil _ _ _ _ _, hE1.drew⟩
  case true =>
    go_enter Tryz.func50, Tryz.ntmps50
    go_wp2_with fail
    refine wp_name fun W1 hW1 => ?_
    have hq0 : W1.heap[w.heap.size]? = some (.cells #[x0, x1, .slice (some ⟨b1, o1, none⟩) am.length n3, x3, x4, .slice (some ⟨b2, o2, none⟩) bm.length k3, x6, x7, x8, .func (.func 64) #[] #[]] 90 (0, 0)) := by
      rw [← hW1]; exact (Below.heap_alloc _ _ _ (by simp)).trans (World.alloc_heap_new w _)
    have q0 : W1.cell? ⟨w.heap.size + 1, 0, none⟩ = some (.int .i64 (pa : Int)) := by rw [← hW1]; clear hW1; go_simp
    have q1 : W1.cell? ⟨w.heap.size + 1, 1, none⟩ = some (.int .i64 (pb : Int)) := by rw [← hW1]; clear hW1; go_simp
    have hE1 : Ext w W1 := by rw [← hW1]; exact ((Ext.refl _).alloc _).alloc _
    have hz1 : w.heap.size + 1 < W1.heap.size := by rw [← hW1]; simp
    clear hW1
    have q5 := cell_of_row W1 _ 2 _ _ _ hq0
    have q6 := cell_of_row W1 _ 5 _ _ _ hq0
    have q7 := cell_of_row W1 _ 9 _ _ _ hq0
    simp at q5 q6 q7
    have f1 := bcellS hE1.below e1
    have f2 := bcellS hE1.below e2
    have h1 : b1 < W1.heap.size := by omega
    have h2 : b2 < W1.heap.size := by omega
    have h7 : w.heap.size < W1.heap.size := by omega
    clear hq0 e1 e2 hb1 hb2
    go_region_held3 (fun w' => (∀ b o, b < W1.heap.size → w'.cell? ⟨b, o, none⟩ = W1.cell? ⟨b, o, none⟩) ∧ (∀ b o, b < W1.heap.size → w'.frozen? ⟨b, o, none⟩ = W1.frozen? ⟨b, o, none⟩))
      (first | exact stayB_start _ _ | assumption)
      ((first | ((with_reducible refine (hcall _).mono ?_); rintro e w9 ⟨rfl, rfl⟩)))
    go_wp2
    go_ret
    exact ⟨_, rfl, OwnS.box Kint 3 W1.drew [.int .i64 0] 0 w.heap.size _ hE1.size hE1.size ⟨rfl, by constructor <;> omega⟩, hE1.drew.alloc _⟩

end Go.Proofs
