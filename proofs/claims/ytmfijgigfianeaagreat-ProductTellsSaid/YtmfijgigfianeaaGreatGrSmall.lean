/- Slices that may be written over: what is asked of memory. Writing over an automaton: the walk. Is an automaton small? -/
import Derived.Test.YtmfijgigfianeaaGreatGrTheirs
section
set_option linter.unusedVariables false
set_option linter.unusedSimpArgs false
namespace Rp
open Go Go.RowKit Go.Proofs
abbrev slcV (x : Option Addr × Nat × Nat) : Value := .slice x.1 x.2.1 x.2.2
/-- The headers of slices. -/
def Kslc : Kd (Option Addr × Nat × Nat) := Kd.scalar slcV (fun _ => True) (fun _ => rfl)
/-- Cells that may be written. -/
def Wr (w : World) (S : Nat → Prop) (A : Option Addr) (n : Nat) : Prop := ∀ j, j < n → ∃ b off z, A = some ⟨b, off, none⟩ ∧ S b ∧ w.cell? ⟨b, off + j, none⟩ = some z ∧ w.frozen? ⟨b, off + j, none⟩ = false
theorem Wr.set {w : World} {S : Nat → Prop} {A : Option Addr} {n : Nat} (h : Wr w S A n) (p : Addr) (u : Value) : Wr (w.setCell p u) S A n := fun j hj => by
  obtain ⟨b, off, z, e, hS, hc, hf⟩ := h j hj
  by_cases hp : p = ⟨b, off + j, none⟩
  · subst hp
    exact ⟨b, off, u, e, hS, World.cell?_setCell_same w _ u hc, by rw [World.frozen?_setCell]; exact hf⟩
  · exact ⟨b, off, z, e, hS, (World.cell?_setCell_other w _ _ u hp).trans hc, by rw [World.frozen?_setCell]; exact hf⟩
theorem Wr.below {w w' : World} {S : Nat → Prop} {A : Option Addr} {n : Nat} (h : Wr w S A n) (hb : Below w.heap.size w w') : Wr w' S A n := fun j hj => by
  obtain ⟨b, off, z, e, hS, hc, hf⟩ := h j hj
  exact ⟨b, off, z, e, hS, bcellS hb hc, (hb.frozen (p := ⟨b, off + j, none⟩) (World.block_lt_of_cell? w ⟨b, off + j, none⟩ hc)).trans hf⟩
theorem Wr.mono {w : World} {S T : Nat → Prop} {A : Option Addr} {n : Nat} (h : Wr w S A n) (hm : ∀ b, S b → T b) : Wr w T A n := fun j hj => by
  obtain ⟨b, off, z, e, hS, hc, hf⟩ := h j hj
  exact ⟨b, off, z, e, hm b hS, hc, hf⟩
theorem Wr.at {w : World} {S : Nat → Prop} {b off n : Nat} (h : Wr w S (some ⟨b, off, none⟩) n) {j : Nat} (hj : j < n) : ∃ z, w.cell? ⟨b, off + j, none⟩ = some z ∧ w.frozen? ⟨b, off + j, none⟩ = false := by
  obtain ⟨b', off', z, e, _, hc, hf⟩ := h j hj
  injection e with e; injection e with e1 e2
  subst e1 e2
  exact ⟨z, hc, hf⟩
theorem wr_of_SF {α : Type} {d : Kd α} {w : World} {F : Nat → Prop} {A : Option Addr} {xs : List α} (h : d.SF w F A xs) : Wr w F A (xs.length * d.sz) := fun j hj => by
  have hx : xs ≠ [] := fun e => by subst e; simp at hj
  obtain ⟨b, off, inner, e, hF, _, hr, hc, hf⟩ := h hx
  have hl := hr.length
  have hji : j < inner.length := by omega
  exact ⟨b, off, inner[j], e, hF, hc j _ (List.getElem?_eq_getElem hji), hf _⟩
theorem slc_reps {w : World} {F : Nat → Prop} : ∀ {xs : List (List Int)} {cs : List Value}, Reps (KintF.R w F) 1 xs cs →
    ∃ ys : List (Option Addr × Nat × Nat), Reps (Kslc.R w F) 1 ys cs ∧ ys.length = xs.length ∧ ∀ y ∈ ys, Wr w F y.1 y.2.1 ∧ ∃ x ∈ xs, y.2.1 = x.length
  | [], cs, h => ⟨[], h, rfl, fun y hy => by simp at hy⟩
  | x :: xs, cs, ⟨c, r, e, hc, hx, hr⟩ => by
    obtain ⟨ys, h1, h2, h3⟩ := slc_reps hr
    obtain ⟨A, cap, ec, _, _, hs⟩ := hx
    refine ⟨(A, x.length, cap) :: ys, ⟨c, r, e, hc, ⟨ec, trivial⟩, h1⟩, by simp [h2], fun y hy => ?_⟩
    rcases List.mem_cons.1 hy with rfl | hy
    · have := wr_of_SF hs
      rw [show Kint.sz = 1 from rfl, Nat.mul_one] at this
      exact ⟨this, x, by simp, rfl⟩
    · obtain ⟨h4, z, hz, hzl⟩ := h3 y hy
      exact ⟨h4, z, by simp [hz], hzl⟩
theorem S_slc {w : World} {F : Nat → Prop} {A : Option Addr} {xs : List (List Int)} (h : KintF.S w F A xs) :
    ∃ ys : List (Option Addr × Nat × Nat), Kslc.S w F A ys ∧ ys.length = xs.length ∧ ∀ y ∈ ys, Wr w F y.1 y.2.1 ∧ ∃ x ∈ xs, y.2.1 = x.length := by
  by_cases hx : xs = []
  · subst hx; exact ⟨[], fun e => absurd rfl e, rfl, fun y hy => by simp at hy⟩
  · obtain ⟨b, off, inner, e, hF, hlt, hr, hc⟩ := h hx
    obtain ⟨ys, h1, h2, h3⟩ := slc_reps hr
    exact ⟨ys, fun _ => ⟨b, off, inner, e, hF, hlt, h1, hc⟩, h2, h3⟩
theorem S_slcAt {w : World} {F : Nat → Prop} {A : Option Addr} {xs : List (Option Addr × Nat × Nat)} (h : Kslc.S w F A xs) {i : Nat} (hi : i < xs.length) :
    ∃ b off, A = some ⟨b, off, none⟩ ∧ F b ∧ b < w.heap.size ∧ w.cell? ⟨b, off + i, none⟩ = some (slcV xs[i]) := by
  obtain ⟨b, off, c, e, hF, hlt, hcl, hp, hj⟩ := h.at (List.getElem?_eq_getElem hi)
  have hc : c = [slcV xs[i]] := hp.1
  subst hc
  have := hj 0 _ rfl
  exact ⟨b, off, e, hF, hlt, by simpa [Kslc, Kd.scalar] using this⟩
theorem tightSlc {w : World} : ∀ (G G' : Nat → Prop) q c, Kslc.R w G q c → Kslc.R w G' q c := fun _ _ _ _ h => h
end Rp
namespace Go.Proofs
open Go.RowKit Go.Shelf Rp Go.Maps
attribute [local go_sem] Oper.semAt_some

set_option maxRecDepth 100000 in
theorem c_cloneSlc (A : Option Addr) (cap : Nat) (xs : List _) (F : Nat → Prop) (w : World) (hS : (Kslc).S w F A xs) (hF : ∀ b, F b → b < w.heap.size) (hm : xs.length ≤ 1000000000) :
    Calls Tryz.prog 13 #[.slice A xs.length cap] w fun e w' => ∃ v, e = .returned v ∧ OwnS Kslc 36 w' w.heap.size (fun b => F b ∨ w.heap.size ≤ b) v xs ∧ Below w.heap.size w w' := by
  go_enter Tryz.func13, Tryz.ntmps13
  cases A with
  | none =>
    have hx : xs = [] := by
      apply Classical.byContradiction
      intro hx
      obtain ⟨b, off, inner, e, _⟩ := hS hx
      cases e
    subst hx
    have hnil : ∀ W, (binOp .eql 23 (.slice none 0 cap) (.slice none 0 0)).run Tryz.prog W = .ok (.bool true) W := fun W => Lib.run_eql_slice_nil W 23 36 none 0 cap 0 0 Tryz.underlying23
    go_wp2
    go_ret
    exact ⟨_, rfl, OwnS.nil _ _ _ _ _, Below.refl _ _⟩
  | some a =>
    have hnil : ∀ W, (binOp .eql 23 (.slice (some a) xs.length cap) (.slice none 0 0)).run Tryz.prog W = .ok (.bool false) W := fun W => Lib.run_eql_slice_nil W 23 36 (some a) xs.length cap 0 0 Tryz.underlying23
    go_wp2_with (at_builtin; go_loud (refine own_appendS Kslc (w.alloc (.cells #[] 36)) w.heap.size rfl _ _ 23 36 (.slice none 0 0) 24 rfl Tryz.underlying23 info_ints rfl (by decide) (by decide) (.slice (some ⟨w.heap.size, 0, none⟩) 0 0) [] xs (some a) cap (fun b => F b ∨ w.heap.size ≤ b) F rfl rfl (hS.step (fun b _ hl => Below.heap_alloc w _ b hl)) (fun q c h => (Kslc).mono (fun b hb => ⟨.inl hb, fun e => by have := hF b hb; simp [Value.ownBlock] at e; omega⟩) h) (OwnS.fresh _ _ w w.heap.size _ (Nat.le_refl _) (.inr (Nat.le_refl _))) (fun k hk => .inr (by simp at hk; omega)) (by simp) (by simp; omega) ?_); intro v1 w1 hO hM hv)
    go_ret
    exact ⟨_, rfl, by simpa using hO, Mov.below ((Below.refl _ _).alloc (Nat.le_refl _) _) hM (by simp) (fun k hk => by simp [Value.ownBlock] at hk; omega)⟩

end Go.Proofs
end

section
set_option linter.unusedVariables false
set_option linter.unusedSimpArgs false
namespace Rp
open Go Go.RowKit Go.Proofs
theorem OwnS.row {α : Type} {d : Kd α} {e : TypeId} {w : World} {base : Nat} {F : Nat → Prop} {a : Addr} {n c : Nat} {xs : List α} (h : OwnS d e w base F (.slice (some a) n c) xs) : ∃ cur, w.heap[a.block]? = some (.cells cur e (0, 0)) ∧ F a.block ∧ base ≤ a.block := by
  obtain ⟨hF, inner, ho, _⟩ := h
  rcases ho.2 with ⟨e, _⟩ | ⟨g, cap, cur, e, hg, hh, _⟩
  · cases e
  · injection e with e1 e2 e3
    injection e1 with e1
    subst e1
    exact ⟨cur, hh, hF g rfl, hg⟩
theorem S_slc_in {w : World} {F G : Nat → Prop} {A : Option Addr} {ys : List (Option Addr × Nat × Nat)} (h : Kslc.S w F A ys) (hG : ∀ a : Addr, A = some a → G a.block) : Kslc.S w G A ys := fun hx => by
  obtain ⟨b, off, inner, e, _, hlt, hr, hc⟩ := h hx
  exact ⟨b, off, inner, e, hG _ e, hlt, hr.imp fun _ _ _ h => h, hc⟩
end Rp
namespace Go.Proofs
open Go.RowKit Go.Shelf Rp Go.Maps
attribute [local go_sem] Oper.semAt_some
set_option maxRecDepth 100000 in
set_option maxHeartbeats 3200000 in
theorem c_spoil0 (A1 A2 A3 : Option Addr) (n1 k1 k2 k3 : Nat) (ys zs : List (Option Addr × Nat × Nat)) (F G : Nat → Prop) (w : World) (h1 : Wr w F A1 (n1 * 4)) (h2 : Kslc.S w G A2 ys) (h3 : Kslc.S w G A3 zs)
    (hF : ∀ b, F b → b < w.heap.size) (hG : ∀ b, G b → b < w.heap.size) (hd : ∀ b, G b → ∀ a : Addr, A1 = some a → b ≠ a.block) (hw : ∀ y ∈ ys ++ zs, Wr w F y.1 y.2.1 ∧ y.2.1 ≤ 1000000000) (hn1 : n1 ≤ 1000000000) (hn2 : ys.length ≤ 1000000000) (hn3 : zs.length ≤ 1000000000) :
    Calls Tryz.prog 23 #[.agg #[.slice A1 n1 k1, .slice A2 ys.length k2, .slice A3 zs.length k3]] w
      fun e w' => e = .returned (.tuple #[]) ∧ Kp F w w' := by
  go_enter Tryz.func23, Tryz.ntmps23
  go_upto_region 1 with (fail)
  refine wp_name fun W0 hW0 => ?_
  have q0 : W0.heap[w.heap.size]? = some (.cells #[.slice A1 n1 k1, .slice A2 ys.length k2, .slice A3 zs.length k3] 25 (0, 0)) := by rw [← hW0]; exact World.alloc_heap_new w _
  have hB0 : Below w.heap.size w W0 := by rw [← hW0]; exact (Below.refl _ _).alloc (Nat.le_refl _) _
  have hz0 : W0.heap.size = w.heap.size + 1 := by rw [← hW0]; simp
  clear hW0
  obtain ⟨b0, b1, b2⟩ := cells3 q0
  have HQ0 := Lib.hid q0
  clear q0
  have H1 := Lib.hid (h1.below hB0)
  have H2 := Lib.hid (S_below h2 hB0)
  have H3 := Lib.hid (S_below h3 hB0)
  have HW := Lib.hid (fun y hy => And.intro ((hw y hy).1.below hB0) (hw y hy).2)
  have hwz : w.heap.size < W0.heap.size := by omega
  clear h1 h2 h3 hw
  go_wp2
  go_loopg [9] (n1 + 1) (fun gk vk wr => ∃ (k : Nat), vk = .int .i64 (k : Int) ∧ k ≤ n1 ∧ gk + k = n1 + 1 ∧ Wr wr F A1 (n1 * 4) ∧ (∀ y ∈ ys ++ zs, Wr wr F y.1 y.2.1) ∧ Kp (fun j => F j ∧ ∃ a : Addr, A1 = some a ∧ j = a.block) W0 wr)
  case atStart => exact ⟨0, rfl, by omega, by omega, H1.out, fun y hy => (HW.out y hy).1, Kp.refl _ _⟩
  case round =>
    obtain ⟨k, rfl, hk, hgk, hr, hy, hK⟩ := hrel
    have HG := Lib.hid hgk
    have hk0 : (0 : Int) ≤ k := by omega
    have HY := Lib.hid hy
    have HK := Lib.hid hK
    have hq := hK.heap HQ0.out (fun e => by have := hF _ e.1; omega)
    obtain ⟨c0, c1, c2⟩ := cells3 hq
    have HQ := Lib.hid hq
    clear hgk hy hK hq
    by_cases hlt : k < n1
    · have hlt' : (k : Int) < n1 := by omega
      obtain ⟨b, off, z0, rfl, hFb, e0, f0⟩ := hr (k * 4) (by omega)
      obtain ⟨z1, e1, f1⟩ := hr.at (j := k * 4 + 1) (by omega)
      obtain ⟨z2, e2, f2⟩ := hr.at (j := k * 4 + 2) (by omega)
      obtain ⟨z3, e3, f3⟩ := hr.at (j := k * 4 + 3) (by omega)
      simp only [← Nat.add_assoc] at e0 e1 e2 e3 f0 f1 f2 f3
      have HR := Lib.hid hr
      clear hr
      go_wp2
      go_roundg (gk - 1)
      case measure => have := HG.out; omega
      case rel =>
        refine ⟨k + 1, by go_num, by omega, by have := HG.out; omega, (((HR.out.set _ _).set _ _).set _ _).set _ _, fun y hy => ((((HY.out y hy).set _ _).set _ _).set _ _).set _ _, ?_⟩
        have hm : F b ∧ ∃ a : Addr, some (⟨b, off, none⟩ : Addr) = some a ∧ b = a.block := ⟨hFb, _, rfl, rfl⟩
        exact (((HK.out.setCell ⟨b, _, none⟩ hm _).setCell ⟨b, _, none⟩ hm _).setCell ⟨b, _, none⟩ hm _).setCell ⟨b, _, none⟩ hm _
    · obtain rfl : k = n1 := by omega
      have hge : ¬ ((k : Int) < k) := by omega
      obtain ⟨Wa, rfl⟩ : ∃ x : World, x = wr := ⟨_, rfl⟩
      have hza : W0.heap.size ≤ Wa.heap.size := HK.out.size
      have hS2 := S_keep H2.out HK.out (fun b hb _ e => by obtain ⟨_, a, ea, eb⟩ := e; exact hd b hb a ea eb)
      have hS3 := S_keep H3.out HK.out (fun b hb _ e => by obtain ⟨_, a, ea, eb⟩ := e; exact hd b hb a ea eb)
      have hcc := c_cloneSlc A2 k2 ys G Wa.drew (hS2.step fun _ _ _ => rfl) (fun b hb => by have := hG b hb; show b < Wa.heap.size; omega) hn2
      have HS3 := Lib.hid hS3
      obtain ⟨SS, hSS⟩ : ∃ S : World → Prop, S = fun w' => Below Wa.heap.size Wa w' := ⟨_, rfl⟩
      have hSi : ∀ W', SS W' → Below Wa.heap.size Wa W' := fun W' h => by rw [hSS] at h; exact h
      have hSo : ∀ W', Below Wa.heap.size Wa W' → SS W' := fun W' h => by rw [hSS]; exact h
      have hS : SS Wa.drew := hSo _ (Below.refl _ _).drew
      clear hSS hS2 hS3 hr b0 b1 b2 c0
      go_wp2
      refine wp_region_noPanic (wp_region_T SS [1, 4] (by kernel_rfl) ?_)
      refine wpAnyT_takeY (i := 0) (v := ?v0_1) rfl (by kernel_rfl) (by kernel_rfl) (by kernel_rfl) (fun _ _ _ h => h) (by rfl) ?hy0_1 ?r0_1
      case hy0_1 => (intro w; go_simp; try (with_reducible rfl))
      case r0_1 =>
      try simp only [Act.put, List.setIfInBounds_toArray, List.set_cons_zero, List.set_cons_succ]
      refine wpAnyT_takeY (i := 3) (v := ?v3_2) rfl (by kernel_rfl) (by kernel_rfl) (by kernel_rfl) (fun _ _ _ h => h) (by rfl) ?hy3_2 ?r3_2
      case hy3_2 => (intro w; go_simp; try (with_reducible rfl))
      case r3_2 =>
      try simp only [Act.put, List.setIfInBounds_toArray, List.set_cons_zero, List.set_cons_succ]
      refine wpAnyT_takeY (i := 7) (v := ?v7_3) rfl (by kernel_rfl) (by kernel_rfl) (by kernel_rfl) (fun _ _ _ h => h) (by rfl) ?hy7_3 ?r7_3
      case hy7_3 => (intro w; go_simp; try (with_reducible rfl))
      case r7_3 =>
      try simp only [Act.put, List.setIfInBounds_toArray, List.set_cons_zero, List.set_cons_succ]
      refine wpAnyT_take (i := 1) (v := ?v1_4) rfl rfl (by kernel_rfl) (by kernel_rfl) (by kernel_rfl) (fun _ _ _ h => h) (by rfl) hS ?hy1_4 ?r1_4
      case hy1_4 => (intro w hSw; have e1 := bcellS (hSi _ hSw) c1; have e2 := bcellS (hSi _ hSw) c2; (try dsimp only at hSw); go_simp; try (with_reducible rfl))
      case r1_4 =>
      try simp only [Act.put, List.setIfInBounds_toArray, List.set_cons_zero, List.set_cons_succ]
      refine wpAnyT_take (i := 4) (v := ?v4_5) rfl rfl (by kernel_rfl) (by kernel_rfl) (by kernel_rfl) (fun _ _ _ h => h) (by rfl) hS ?hy4_5 ?r4_5
      case hy4_5 => (intro w hSw; have e1 := bcellS (hSi _ hSw) c1; have e2 := bcellS (hSi _ hSw) c2; (try dsimp only at hSw); go_simp; try (with_reducible rfl))
      case r4_5 =>
      try simp only [Act.put, List.setIfInBounds_toArray, List.set_cons_zero, List.set_cons_succ]
      refine wpAnyT_one (i := 2) rfl (by kernel_rfl) (by rfl) (fun K hK => ?_)
      go_simp
      refine hcc.mono ?_
      rintro e w6 ⟨v6, rfl, hO6, hB6⟩
      have hB6' : Below Wa.heap.size Wa w6 := (Below.refl _ Wa).drew.trans hB6
      obtain ⟨A6, c6, rfl, -, -, -⟩ := hO6.reads
      try dsimp only
      have hO6' : OwnS Kslc 36 w6 Wa.heap.size (fun b => Wa.heap.size ≤ b) (.slice A6 ys.length c6) ys := OwnS.tight tightSlc hO6
      refine hK _ _ (fun _ _ => hSo _ hB6') ?_
      have hz6 := hB6'.size
      have HB6 := Lib.hid hB6'
      have HO6 := Lib.hid hO6'
      clear hO6 hB6 hB6' hO6' hS
      clear hK K
      try simp only [Act.put, List.setIfInBounds_toArray, List.set_cons_zero, List.set_cons_succ]
      refine wpAnyT_one (i := 5) rfl (by kernel_rfl) (by rfl) (fun K hK => ?_)
      refine wp_own_appendS Kslc w6 Wa.heap.size _ _ 23 36 (.slice none 0 0) 24 rfl Tryz.underlying23 info_ints rfl (by decide) (by decide) (.slice A6 ys.length c6) ys zs A3 k3 (fun b => Wa.heap.size ≤ b) G rfl rfl (S_below HS3.out HB6.out) (fun _ _ h => h) HO6.out (fun j hj => by omega) hz6 (by omega) ?_
      intro v7 w7 hO7 hM7 hv7
      have hB7 : Below Wa.heap.size Wa w7 := Mov.below HB6.out hM7 hz6 (fun j hj => HO6.out.1 j hj)
      obtain ⟨A7, c7, rfl, -, -, -⟩ := hO7.reads
      refine hK _ _ (fun _ _ => hSo _ hB7) ?_
      have HB7 := Lib.hid hB7
      have HO7 := Lib.hid hO7
      have HY7 := Lib.hid (fun y hy => (HY.out y hy).below hB7)
      clear hB7 hO7 hM7 hv7 c1 c2 hSi hSo
      clear hK K
      try simp only [Act.put, List.setIfInBounds_toArray, List.set_cons_zero, List.set_cons_succ]
      refine wpAnyT_takeY (i := 6) (v := ?v6_6) rfl (by kernel_rfl) (by kernel_rfl) (by kernel_rfl) (fun _ _ _ h => h) (by rfl) ?hy6_6 ?r6_6
      case hy6_6 => (intro w; go_simp; try (with_reducible rfl))
      case r6_6 =>
      try simp only [Act.put, List.setIfInBounds_toArray, List.set_cons_zero, List.set_cons_succ]
      refine wpAnyT_done (by kernel_rfl) ?_ _
      refine NoPanic.normal ?_
      try dsimp only
      have hlen : (ys ++ zs).length ≤ 2000000000 := by simp; omega
      have hHW := Lib.hid (fun y hy => (HW.out y hy).2)
      have HWL := Lib.hid (show (ys ++ zs).length = ys.length + zs.length by simp)
      generalize ys ++ zs = ws at *
      go_wp2
      go_loopg [25] (ys.length + zs.length + 1) (fun gk vk wr => ∃ (k : Nat), vk = .int .i64 (k : Int) ∧ k ≤ ys.length + zs.length ∧ gk + k = ys.length + zs.length + 1 ∧ (∀ y ∈ ws, Wr wr F y.1 y.2.1) ∧ Kp F w7 wr)
      case atStart => exact ⟨0, rfl, by omega, by omega, HY7.out, Kp.refl _ _⟩
      case round =>
        obtain ⟨k, rfl, hk, hgk, hy, hK⟩ := hrel
        have HG2 := Lib.hid hgk
        have hk0 : (0 : Int) ≤ k := by omega
        have HY2 := Lib.hid hy
        have HK2 := Lib.hid hK
        have hO2 := HO7.out.keep hK (fun b hb hl e => by have := hF _ e; omega)
        clear hgk hy hK
        by_cases hln : k < ys.length + zs.length
        · have hln' : (k : Int) < ys.length + zs.length := by omega
          have hlt : k < ws.length := by rw [HWL.out]; exact hln
          have hlt' : (k : Int) < ws.length := by omega
          obtain ⟨A8, c8, e8, -, -, s8⟩ := hO2.reads
          obtain ⟨rfl, -, -⟩ := slice_inj e8
          obtain ⟨b8, o8, rfl, hb8, hl8, p8⟩ := S_slcAt s8 hlt
          have hyk := HY2.out _ (List.getElem_mem hlt)
          have hyl := hHW.out _ (List.getElem_mem hlt)
          have HO2 := Lib.hid hO2
          have HIN := Lib.hid (List.getElem_mem hlt)
          clear hO2 s8 e8
          generalize ws[k] = y at *
          obtain ⟨Ay, ny, cy⟩ := y
          dsimp only [slcV] at p8 hyk hyl
          obtain ⟨wo, rfl⟩ : ∃ x : World, x = wr := ⟨_, rfl⟩
          obtain ⟨gk0, rfl⟩ : ∃ x : Nat, x = gk := ⟨_, rfl⟩
          go_wp2
          go_loopg [31] (ny + 1) (fun gk vk wr => ∃ (j : Nat), vk = .int .i64 (j : Int) ∧ j ≤ ny ∧ gk + j = ny + 1 ∧ (∀ y ∈ ws, Wr wr F y.1 y.2.1) ∧ Kp F w7 wr)
          case atStart => exact ⟨0, rfl, by omega, by omega, HY2.out, HK2.out⟩
          case round =>
            obtain ⟨j, rfl, hj, hgk, hy, hK⟩ := hrel
            have HG3 := Lib.hid hgk
            have hj0 : (0 : Int) ≤ j := by omega
            have HY3 := Lib.hid hy
            have HK3 := Lib.hid hK
            have hyw := hy _ HIN.out
            clear hgk hy hK
            by_cases hlj : j < ny
            · have hlj' : (j : Int) < ny := by omega
              obtain ⟨b9, o9, z9, e9, hF9, p9, f9⟩ := hyw j hlj
              obtain rfl : Ay = some ⟨b9, o9, none⟩ := e9
              clear hyw
              go_wp2
              go_roundg (gk - 1)
              case measure => have := HG3.out; omega
              case rel => exact ⟨j + 1, by go_num, by omega, by have := HG3.out; omega, fun y hy => (HY3.out y hy).set _ _, HK3.out.setCell ⟨b9, _, none⟩ hF9 _⟩
            · obtain rfl : j = ny := by omega
              have hge3 : ¬ ((j : Int) < j) := by omega
              go_wp2
              go_roundg (gk0 - 1)
              case measure => have := HG2.out; omega
              case rel => exact ⟨k + 1, by go_num, by omega, by have := HG2.out; omega, HY3.out, HK3.out⟩
        · have hge2 : ¬ ((k : Int) < ys.length + zs.length) := by omega
          go_wp2
          go_end0
          exact ⟨rfl, (Kp.of_below hB0).trans (((HK.out.mono fun _ _ h => h.1).trans ((Kp.of_below HB7.out))).trans HK2.out)⟩
theorem c_spoil (h : DA) (d : Dfa) (base : Nat) (F : Nat → Prop) (w : World) (o1 : OwnS Kset 33 w base F (.slice h.A1 d.cls.length h.c1) d.cls) (o2 : OwnS KintF 36 w base F (.slice h.A2 d.next.length h.c2) d.next) (o3 : OwnS KintF 36 w base F (.slice h.A3 d.marks.length h.c3) d.marks) (hs : DfaS d) :
    Calls Tryz.prog 23 #[dfaV h d] w fun e w' => e = .returned (.tuple #[]) ∧ Kp F w w' := by
  obtain ⟨A1, c1, A2, c2, A3, c3⟩ := h
  dsimp only at o1 o2 o3
  obtain ⟨B1, i1, e1, _, _, r1⟩ := o1.bound.readsF
  obtain ⟨B2, i2, e2, _, _, r2⟩ := o2.bound.reads
  obtain ⟨B3, i3, e3, _, _, r3⟩ := o3.bound.reads
  obtain ⟨rfl, _, _⟩ := slice_inj e1
  obtain ⟨rfl, _, _⟩ := slice_inj e2
  obtain ⟨rfl, _, _⟩ := slice_inj e3
  obtain ⟨ys, y1, y2, y3⟩ := S_slc r2
  obtain ⟨zs, z1, z2, z3⟩ := S_slc r3
  have hw1 := wr_of_SF r1
  have hne : ∀ (a b : Addr) (X Y : Array Value), w.heap[a.block]? = some (.cells X 33 (0, 0)) → w.heap[b.block]? = some (.cells Y 36 (0, 0)) → b.block ≠ a.block := fun a b X Y h1 h2 e => by
    rw [e, h1] at h2
    injection h2 with h2; injection h2 with _ h2
    exact absurd h2 (by decide)
  have hk := c_spoil0 A1 A2 A3 d.cls.length c1 c2 c3 ys zs (fun b => F b ∧ b < w.heap.size) (fun b => (∃ a : Addr, A2 = some a ∧ b = a.block) ∨ ∃ a : Addr, A3 = some a ∧ b = a.block) w hw1
    (S_slc_in y1 fun a e => .inl ⟨a, e, rfl⟩) (S_slc_in z1 fun a e => .inr ⟨a, e, rfl⟩) (fun b hb => hb.2) (fun b hb => ?_) (fun b hb a ea => ?_) (fun y hy => ?_) hs.b1 (by rw [y2]; exact hs.b2) (by rw [z2]; exact hs.b3)
  · rw [y2, z2] at hk
    refine hk.mono ?_
    rintro e w' ⟨rfl, hK⟩
    exact ⟨rfl, hK.mono fun _ _ h => h.1⟩
  · rcases hb with ⟨a, rfl, rfl⟩ | ⟨a, rfl, rfl⟩
    · obtain ⟨cur, hh, _⟩ := o2.row
      exact (Array.getElem?_eq_some_iff.1 hh).1
    · obtain ⟨cur, hh, _⟩ := o3.row
      exact (Array.getElem?_eq_some_iff.1 hh).1
  · subst ea
    obtain ⟨cur, hh, _⟩ := o1.row
    rcases hb with ⟨a', rfl, rfl⟩ | ⟨a', rfl, rfl⟩
    · obtain ⟨cur', hh', _⟩ := o2.row
      exact hne _ _ _ _ hh hh'
    · obtain ⟨cur', hh', _⟩ := o3.row
      exact hne _ _ _ _ hh hh'
  · rcases List.mem_append.1 hy with hy | hy
    · obtain ⟨h1, x, hx, e⟩ := y3 y hy
      exact ⟨h1, by rw [e]; exact hs.b4 x hx⟩
    · obtain ⟨h1, x, hx, e⟩ := z3 y hy
      exact ⟨h1, by rw [e]; exact hs.b5 x hx⟩
end Go.Proofs
end

section
set_option linter.unusedVariables false
set_option linter.unusedSimpArgs false
namespace Rp
open Go Go.RowKit Go.Proofs
theorem Reps.take {α : Type} {R : α → List Value → Prop} {size : Nat} : ∀ {ps : List α} {cs : List Value} (n : Nat), Reps R size ps cs → ∃ ds es, cs = ds ++ es ∧ Reps R size (ps.take n) ds
  | ps, cs, 0, _ => ⟨[], cs, by simp, by simp [Reps]⟩
  | [], cs, n + 1, h => ⟨[], cs, by simp, by simp [Reps]⟩
  | p :: ps, cs, n + 1, ⟨c, r, e, hc, hp, hr⟩ => by
    obtain ⟨ds, es, e2, h2⟩ := Reps.take n hr
    exact ⟨c ++ ds, es, by rw [e, e2, List.append_assoc], c, ds, rfl, hc, hp, h2⟩
theorem S_take {α : Type} {d : Kd α} {w : World} {F : Nat → Prop} {A : Option Addr} {xs : List α} (h : d.S w F A xs) (n : Nat) : d.S w F A (xs.take n) := fun hx => by
  obtain ⟨b, off, inner, e, hF, hlt, hr, hc⟩ := h (fun e => hx (by rw [e]; simp))
  obtain ⟨ds, es, e2, h2⟩ := hr.take n
  exact ⟨b, off, ds, e, hF, hlt, h2, fun j u hu => hc j u (by rw [e2, List.getElem?_append_left (List.getElem?_eq_some_iff.1 hu).1]; exact hu)⟩
/-- All numbers of the first rows. -/
def sumL (l : List (List Int)) : Nat := (l.map List.length).sum
def smallB (d : Dfa) : Bool := decide (d.cls.length ≤ 20) && (decide (d.next.length ≤ 20) && (decide (d.marks.length ≤ 20) && decide (sumL (d.next.take 21 ++ d.marks.take 21) ≤ 500)))
theorem sumL_next (l : List (List Int)) (k : Nat) (h : k < l.length) : sumL (l.take (k + 1)) = sumL (l.take k) + l[k].length := by
  unfold sumL
  rw [List.take_succ_eq_append_getElem h, List.map_append, List.sum_append]; simp
theorem sumL_append (a b : List (List Int)) : sumL (a ++ b) = sumL a + sumL b := by simp [sumL]
theorem sumL_bound (B : Nat) : ∀ (l : List (List Int)), (∀ x ∈ l, x.length ≤ B) → sumL l ≤ l.length * B
  | [], _ => by simp [sumL]
  | x :: l, h => by
    have h1 := sumL_bound B l fun y hy => h y (by simp [hy])
    have h2 := h x (by simp)
    have e : sumL (x :: l) = x.length + sumL l := by simp [sumL]
    rw [e, List.length_cons, Nat.succ_mul]; omega
theorem sumL_mem : ∀ (l : List (List Int)) (x : List Int), x ∈ l → x.length ≤ sumL l
  | y :: l, x, h => by
    have e : sumL (y :: l) = y.length + sumL l := by simp [sumL]
    rcases List.mem_cons.1 h with rfl | h
    · omega
    · have := sumL_mem l x h; omega
theorem small_sizes {d : Dfa} (h : smallB d = true) : DfaS d := by
  simp only [smallB, Bool.and_eq_true, decide_eq_true_eq] at h
  obtain ⟨h1, h2, h3, h4⟩ := h
  rw [List.take_of_length_le (by omega), List.take_of_length_le (by omega)] at h4
  exact ⟨by omega, by omega, by omega, fun l hl => by have := sumL_mem _ l (List.mem_append_left d.marks hl); omega, fun l hl => by have := sumL_mem _ l (List.mem_append_right d.next hl); omega⟩
end Rp
namespace Go.Proofs
open Go.RowKit Go.Shelf Rp Go.Maps
attribute [local go_sem] Oper.semAt_some
set_option maxRecDepth 100000 in
set_option maxHeartbeats 3200000 in
theorem c_small (h : DA) (d : Dfa) (F : Nat → Prop) (w : World) (hR : DfaR w F h d) (hn : ∀ l ∈ d.next, l.length ≤ 140737488355328) (hm : ∀ l ∈ d.marks, l.length ≤ 140737488355328) :
    Calls Tryz.prog 6 #[dfaV h d] w fun e w' => e = .returned (.bool (smallB d)) ∧ Below w.heap.size w w' := by
  obtain ⟨A1, k1, A2, k2, A3, k3⟩ := h
  obtain ⟨s1, s2, s3, l1, l2, l3, m1, m2, m3⟩ := hR
  dsimp only at s1 s2 s3 l1 l2 l3 m1 m2 m3
  simp only [dfaV, dfaC]
  go_enter Tryz.func6, Tryz.ntmps6
  go_upto_region 2 with (fail)
  refine wp_name fun W0 hW0 => ?_
  have q0 : W0.heap[w.heap.size]? = some (.cells #[.slice A1 d.cls.length k1, .slice A2 d.next.length k2, .slice A3 d.marks.length k3] 25 (0, 0)) := by rw [← hW0]; exact World.alloc_heap_new w _
  have hB0 : Below w.heap.size w W0 := by rw [← hW0]; exact (Below.refl _ _).alloc (Nat.le_refl _) _
  have hz0 : W0.heap.size = w.heap.size + 1 := by rw [← hW0]; simp
  clear hW0
  obtain ⟨b0, b1, b2⟩ := cells3 q0
  have HQ0 := Lib.hid q0
  clear q0
  have hi1 : (0 : Int) ≤ min (d.next.length : Int) 21 := by omega
  have hi2 : min (d.next.length : Int) 21 ≤ k2 := by omega
  have hi3 : (0 : Int) ≤ min (d.marks.length : Int) 21 := by omega
  have hi4 : min (d.marks.length : Int) 21 ≤ k3 := by omega
  have he2 : (d.next.take 21).length = (min (d.next.length : Int) 21).toNat := by rw [List.length_take]; omega
  have he3 : (d.marks.take 21).length = (min (d.marks.length : Int) 21).toNat := by rw [List.length_take]; omega
  have hle2 : (d.next.take 21).length ≤ 21 := by rw [List.length_take]; omega
  have hle3 : (d.marks.take 21).length ≤ 21 := by rw [List.length_take]; omega
  have hcc := c_cloneInts A2 k2 (d.next.take 21) _ W0.drew ((S_take (S_below s2 hB0) 21).bound.step fun _ _ _ => rfl) (fun b hb => hb.2) (by omega)
  have H3 := Lib.hid (S_take (S_below s3 hB0) 21)
  have hbd : sumL (d.next.take 21 ++ d.marks.take 21) ≤ 42 * 140737488355328 := by
    have := sumL_bound 140737488355328 (d.next.take 21 ++ d.marks.take 21) fun x hx => by
      rcases List.mem_append.1 hx with hx | hx
      · exact hn _ (List.mem_of_mem_take hx)
      · exact hm _ (List.mem_of_mem_take hx)
    rw [List.length_append] at this
    exact Nat.le_trans this (Nat.mul_le_mul_right _ (by omega))
  have hsm : smallB d = (decide (d.cls.length ≤ 20) && (decide (d.next.length ≤ 20) && (decide (d.marks.length ≤ 20) && decide (sumL (d.next.take 21 ++ d.marks.take 21) ≤ 500)))) := rfl
  have HSM := Lib.hid hsm
  rw [he2] at hcc
  clear hsm hn hm s1 s2 s3
  generalize d.next.take 21 = xs at *
  generalize d.marks.take 21 = ys at *
  obtain ⟨SS, hSS⟩ : ∃ S : World → Prop, S = fun w' => Below W0.heap.size W0 w' := ⟨_, rfl⟩
  have hSi : ∀ W', SS W' → Below W0.heap.size W0 W' := fun W' h => by rw [hSS] at h; exact h
  have hSo : ∀ W', Below W0.heap.size W0 W' → SS W' := fun W' h => by rw [hSS]; exact h
  have hS : SS W0.drew := hSo _ (Below.refl _ _).drew
  clear hSS
  refine wp_region_noPanic (wp_region_T SS [1, 3, 9, 11] (by kernel_rfl) ?_)
  refine wpAnyT_takeY (i := 0) (v := ?v0_7) rfl (by kernel_rfl) (by kernel_rfl) (by kernel_rfl) (fun _ _ _ h => h) (by rfl) ?hy0_7 ?r0_7
  case hy0_7 => (intro w; go_simp; try (with_reducible rfl))
  case r0_7 =>
  try simp only [Act.put, List.setIfInBounds_toArray, List.set_cons_zero, List.set_cons_succ]
  refine wpAnyT_takeY (i := 2) (v := ?v2_8) rfl (by kernel_rfl) (by kernel_rfl) (by kernel_rfl) (fun _ _ _ h => h) (by rfl) ?hy2_8 ?r2_8
  case hy2_8 => (intro w; go_simp; try (with_reducible rfl))
  case r2_8 =>
  try simp only [Act.put, List.setIfInBounds_toArray, List.set_cons_zero, List.set_cons_succ]
  refine wpAnyT_takeY (i := 8) (v := ?v8_9) rfl (by kernel_rfl) (by kernel_rfl) (by kernel_rfl) (fun _ _ _ h => h) (by rfl) ?hy8_9 ?r8_9
  case hy8_9 => (intro w; go_simp; try (with_reducible rfl))
  case r8_9 =>
  try simp only [Act.put, List.setIfInBounds_toArray, List.set_cons_zero, List.set_cons_succ]
  refine wpAnyT_takeY (i := 10) (v := ?v10_10) rfl (by kernel_rfl) (by kernel_rfl) (by kernel_rfl) (fun _ _ _ h => h) (by rfl) ?hy10_10 ?r10_10
  case hy10_10 => (intro w; go_simp; try (with_reducible rfl))
  case r10_10 =>
  try simp only [Act.put, List.setIfInBounds_toArray, List.set_cons_zero, List.set_cons_succ]
  refine wpAnyT_takeY (i := 17) (v := ?v17_11) rfl (by kernel_rfl) (by kernel_rfl) (by kernel_rfl) (fun _ _ _ h => h) (by rfl) ?hy17_11 ?r17_11
  case hy17_11 => (intro w; go_simp; try (with_reducible rfl))
  case r17_11 =>
  try simp only [Act.put, List.setIfInBounds_toArray, List.set_cons_zero, List.set_cons_succ]
  refine wpAnyT_take (i := 1) (v := ?v1_12) rfl rfl (by kernel_rfl) (by kernel_rfl) (by kernel_rfl) (fun _ _ _ h => h) (by rfl) hS ?hy1_12 ?r1_12
  case hy1_12 => (intro w hSw; have e1 := bcellS (hSi _ hSw) b1; have e2 := bcellS (hSi _ hSw) b2; (try dsimp only at hSw); go_simp; try (with_reducible rfl))
  case r1_12 =>
  try simp only [Act.put, List.setIfInBounds_toArray, List.set_cons_zero, List.set_cons_succ]
  refine wpAnyT_take (i := 3) (v := ?v3_13) rfl rfl (by kernel_rfl) (by kernel_rfl) (by kernel_rfl) (fun _ _ _ h => h) (by rfl) hS ?hy3_13 ?r3_13
  case hy3_13 => (intro w hSw; have e1 := bcellS (hSi _ hSw) b1; have e2 := bcellS (hSi _ hSw) b2; (try dsimp only at hSw); go_simp; try (with_reducible rfl))
  case r3_13 =>
  try simp only [Act.put, List.setIfInBounds_toArray, List.set_cons_zero, List.set_cons_succ]
  refine wpAnyT_takeY (i := 4) (v := ?v4_14) rfl (by kernel_rfl) (by kernel_rfl) (by kernel_rfl) (fun _ _ _ h => h) (by rfl) ?hy4_14 ?r4_14
  case hy4_14 => (intro w; go_simp; try (with_reducible rfl))
  case r4_14 =>
  try simp only [Act.put, List.setIfInBounds_toArray, List.set_cons_zero, List.set_cons_succ]
  refine wpAnyT_takeY (i := 5) (v := ?v5_15) rfl (by kernel_rfl) (by kernel_rfl) (by kernel_rfl) (fun _ _ _ h => h) (by rfl) ?hy5_15 ?r5_15
  case hy5_15 => (intro w; go_simp; try (with_reducible rfl))
  case r5_15 =>
  try simp only [Act.put, List.setIfInBounds_toArray, List.set_cons_zero, List.set_cons_succ]
  refine wpAnyT_takeY (i := 6) (v := ?v6_16) rfl (by kernel_rfl) (by kernel_rfl) (by kernel_rfl) (fun _ _ _ h => h) (by rfl) ?hy6_16 ?r6_16
  case hy6_16 => (intro w; go_simp; try (with_reducible rfl))
  case r6_16 =>
  try simp only [Act.put, List.setIfInBounds_toArray, List.set_cons_zero, List.set_cons_succ]
  refine wpAnyT_take (i := 9) (v := ?v9_17) rfl rfl (by kernel_rfl) (by kernel_rfl) (by kernel_rfl) (fun _ _ _ h => h) (by rfl) hS ?hy9_17 ?r9_17
  case hy9_17 => (intro w hSw; have e1 := bcellS (hSi _ hSw) b1; have e2 := bcellS (hSi _ hSw) b2; (try dsimp only at hSw); go_simp; try (with_reducible rfl))
  case r9_17 =>
  try simp only [Act.put, List.setIfInBounds_toArray, List.set_cons_zero, List.set_cons_succ]
  refine wpAnyT_take (i := 11) (v := ?v11_18) rfl rfl (by kernel_rfl) (by kernel_rfl) (by kernel_rfl) (fun _ _ _ h => h) (by rfl) hS ?hy11_18 ?r11_18
  case hy11_18 => (intro w hSw; have e1 := bcellS (hSi _ hSw) b1; have e2 := bcellS (hSi _ hSw) b2; (try dsimp only at hSw); go_simp; try (with_reducible rfl))
  case r11_18 =>
  try simp only [Act.put, List.setIfInBounds_toArray, List.set_cons_zero, List.set_cons_succ]
  refine wpAnyT_takeY (i := 12) (v := ?v12_19) rfl (by kernel_rfl) (by kernel_rfl) (by kernel_rfl) (fun _ _ _ h => h) (by rfl) ?hy12_19 ?r12_19
  case hy12_19 => (intro w; go_simp; try (with_reducible rfl))
  case r12_19 =>
  try simp only [Act.put, List.setIfInBounds_toArray, List.set_cons_zero, List.set_cons_succ]
  refine wpAnyT_takeY (i := 13) (v := ?v13_20) rfl (by kernel_rfl) (by kernel_rfl) (by kernel_rfl) (fun _ _ _ h => h) (by rfl) ?hy13_20 ?r13_20
  case hy13_20 => (intro w; go_simp; try (with_reducible rfl))
  case r13_20 =>
  try simp only [Act.put, List.setIfInBounds_toArray, List.set_cons_zero, List.set_cons_succ]
  refine wpAnyT_takeY (i := 14) (v := ?v14_21) rfl (by kernel_rfl) (by kernel_rfl) (by kernel_rfl) (fun _ _ _ h => h) (by rfl) ?hy14_21 ?r14_21
  case hy14_21 => (intro w; go_simp; try (with_reducible rfl))
  case r14_21 =>
  try simp only [Act.put, List.setIfInBounds_toArray, List.set_cons_zero, List.set_cons_succ]
  refine wpAnyT_one (i := 7) rfl (by kernel_rfl) (by rfl) (fun K hK => ?_)
  go_simp
  refine hcc.mono ?_
  rintro e w6 ⟨v6, rfl, hO6, hB6⟩
  have hB6' : Below W0.heap.size W0 w6 := (Below.refl _ W0).drew.trans hB6
  obtain ⟨A6, c6, rfl, -, -, -⟩ := hO6.reads
  try dsimp only
  refine hK _ _ (fun _ _ => hSo _ hB6') ?_
  have hz6 := hB6'.size
  have HB6 := Lib.hid hB6'
  have HO6 := Lib.hid hO6
  clear hO6 hB6 hB6' hS hcc
  clear hK K
  try simp only [Act.put, List.setIfInBounds_toArray, List.set_cons_zero, List.set_cons_succ]
  refine wpAnyT_one (i := 15) rfl (by kernel_rfl) (by rfl) (fun K hK => ?_)
  refine wp_own_appendS Kints w6 W0.heap.size _ _ 23 36 (.slice none 0 0) 24 rfl Tryz.underlying23 info_ints rfl (by decide) (by decide) (.slice A6 xs.length c6) xs ys A3 k3 _ (fun b => F b ∧ b < W0.heap.size) rfl (by rw [he3]; rfl) (S_below H3.out.bound HB6.out) (fun _ _ h => Kints.mono (fun b hb => ⟨.inl hb, fun e => ?_⟩) h) HO6.out (fun j hj => .inr (by show W0.heap.size ≤ j; omega)) hz6 (by omega) ?_
  · have := (HO6.out.lt _ e.symm).1
    have : W0.heap.size ≤ b := this
    omega
  intro v7 w7 hO7 hM7 hv7
  have hB7 : Below W0.heap.size W0 w7 := Mov.below HB6.out hM7 hz6 (fun j hj => (HO6.out.lt j hj).1)
  obtain ⟨A7, c7, rfl, -, -, -⟩ := hO7.reads
  refine hK _ _ (fun _ _ => hSo _ hB7) ?_
  have hlen : (xs ++ ys).length ≤ 42 := by simp; omega
  have HB7 := Lib.hid hB7
  have HO7 := Lib.hid hO7
  clear hB7 hO7 hM7 hv7 hSi hSo he2 he3 hi1 hi2 hi3 hi4 hle2 hle3
  generalize xs ++ ys = ws at *
  clear hK K
  try simp only [Act.put, List.setIfInBounds_toArray, List.set_cons_zero, List.set_cons_succ]
  refine wpAnyT_takeY (i := 16) (v := ?v16_22) rfl (by kernel_rfl) (by kernel_rfl) (by kernel_rfl) (fun _ _ _ h => h) (by rfl) ?hy16_22 ?r16_22
  case hy16_22 => (intro w; go_simp; try (with_reducible rfl))
  case r16_22 =>
  try simp only [Act.put, List.setIfInBounds_toArray, List.set_cons_zero, List.set_cons_succ]
  refine wpAnyT_done (by kernel_rfl) ?_ _
  refine NoPanic.normal ?_
  try dsimp only
  clear b0 b1 b2
  obtain ⟨b0, b1, b2⟩ := cells3 ((HB7.out.block _ (by omega)).trans HQ0.out)
  go_wp2
  go_loopg [3, 23] (ws.length + 1) (fun gk vn vk wr => wr = w7 ∧ ∃ (k : Nat), vn = .int .i64 (sumL (ws.take k) : Nat) ∧ vk = .int .i64 (k : Int) ∧ k ≤ ws.length ∧ gk + k = ws.length + 1)
  case atStart => exact ⟨rfl, 0, rfl, rfl, by omega, by omega⟩
  case round =>
    obtain ⟨rfl, k, rfl, rfl, hk, hgk⟩ := hrel
    have HG := Lib.hid hgk
    have hk0 : (0 : Int) ≤ k := by omega
    clear hgk
    by_cases hlt : k < ws.length
    · have hlt' : (k : Int) < ws.length := by omega
      obtain ⟨A8, c8, e8, -, -, s8⟩ := HO7.out.reads
      obtain ⟨rfl, -, -⟩ := slice_inj e8
      obtain ⟨b8, o8, B8, d8, rfl, -, -, p8, -, -, -⟩ := S_slice s8 hlt
      have hsn := sumL_next ws k hlt
      have hmx : sumL (ws.take (k + 1)) ≤ 42 * 140737488355328 := by
        have h1 : sumL ws = sumL (ws.take (k + 1)) + sumL (ws.drop (k + 1)) := by rw [← sumL_append, List.take_append_drop]
        omega
      have HSN := Lib.hid hsn
      clear hsn s8 e8
      generalize ws[k] = x at *
      rw [HSN.out] at hmx
      generalize sumL (ws.take k) = n at *
      have hwr : IntKind.i64.wrap ((n : Int) + x.length) = n + x.length := by rw [IntKind.wrap_i64]; omega
      go_wp2
      go_roundg (gk - 1)
      case measure => have := HG.out; omega
      case rel => exact ⟨rfl, k + 1, by rw [HSN.out]; simp, by go_num, by omega, by have := HG.out; omega⟩
    · obtain rfl : k = ws.length := by omega
      have hge : ¬ ((ws.length : Int) < ws.length) := by omega
      have hsx : sumL (ws.take ws.length) = sumL ws := by rw [List.take_length]
      rw [hsx]
      have hBf : Below w.heap.size w wr := hB0.trans (HB7.out.mono hB0.size)
      have HBF := Lib.hid hBf
      clear hBf hsx HB7 HO7 HO6 HB6
      generalize sumL ws = sm at *
      have hfin : ∀ b1 b2 b3 b4, decide (d.cls.length ≤ 20) = b1 → decide (d.next.length ≤ 20) = b2 → decide (d.marks.length ≤ 20) = b3 → decide (sm ≤ 500) = b4 → smallB d = (b1 && (b2 && (b3 && b4))) := fun _ _ _ _ h1 h2 h3 h4 => by rw [HSM.out, h1, h2, h3, h4]
      have HFIN := Lib.hid hfin
      clear hfin HSM hbd
      by_cases g1 : d.cls.length ≤ 20
      · have g1' : (d.cls.length : Int) ≤ 20 := by omega
        have G1 := Lib.hid (decide_eq_true g1)
        by_cases g2 : d.next.length ≤ 20
        · have g2' : (d.next.length : Int) ≤ 20 := by omega
          have G2 := Lib.hid (decide_eq_true g2)
          by_cases g3 : d.marks.length ≤ 20
          · have g3' : (d.marks.length : Int) ≤ 20 := by omega
            have G3 := Lib.hid (decide_eq_true g3)
            by_cases g4 : sm ≤ 500
            · have g4' : (sm : Int) ≤ 500 := by omega
              have G4 := Lib.hid (decide_eq_true g4)
              go_wp2
              go_ret
              exact ⟨by rw [HFIN.out _ _ _ _ G1.out G2.out G3.out G4.out]; rfl, HBF.out⟩
            · have g4' : ¬ (sm : Int) ≤ 500 := by omega
              have G4 := Lib.hid (decide_eq_false g4)
              go_wp2
              go_ret
              exact ⟨by rw [HFIN.out _ _ _ _ G1.out G2.out G3.out G4.out]; rfl, HBF.out⟩
          · have g3' : ¬ (d.marks.length : Int) ≤ 20 := by omega
            have G3 := Lib.hid (decide_eq_false g3)
            go_wp2
            go_ret
            exact ⟨by rw [HFIN.out _ _ _ _ G1.out G2.out G3.out rfl]; rfl, HBF.out⟩
        · have g2' : ¬ (d.next.length : Int) ≤ 20 := by omega
          have G2 := Lib.hid (decide_eq_false g2)
          go_wp2
          go_ret
          exact ⟨by rw [HFIN.out _ _ _ _ G1.out G2.out rfl rfl]; rfl, HBF.out⟩
      · have g1' : ¬ (d.cls.length : Int) ≤ 20 := by omega
        have G1 := Lib.hid (decide_eq_false g1)
        go_wp2
        go_ret
        exact ⟨by rw [HFIN.out _ _ _ _ G1.out rfl rfl rfl]; rfl, HBF.out⟩
end Go.Proofs
end
