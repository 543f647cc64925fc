/- Clones of slices; copies of automata. The product of two automata, its parts: what an operation says; the classes of both. A region that draws its order, and stores, at its end, into cells that it loads: the elder law of loads that are taken first, where what waits for all of them need not keep the condition. -/
import Derived.Test.YtmfijgigfianeaaGreatGrDfa
import Derived.Test.YtmfijgigfianeaaGreatGrRead
import Derived.Lib.SliceRun
import Derived.OrdersHeld
import Derived.StillTail
import Derived.Tactics
section
set_option linter.unusedVariables false
set_option linter.unusedSimpArgs false
namespace Go.Proofs
open Go.RowKit Go.Shelf Rp
attribute [local go_sem] Oper.semAt_some
theorem info_int : (Tryz.prog.info? 3).map (fun i => (i.zero, i.size, i.bytes)) = some (some (.int .i64 0), 1, 8) := by kernel_rfl
theorem info_ints : (Tryz.prog.info? 36).map (fun i => (i.zero, i.size, i.bytes)) = some (some (.slice none 0 0), 1, 24) := by kernel_rfl

set_option maxRecDepth 100000 in
theorem c_cloneSet (A : Option Addr) (cap : Nat) (xs : List _) (F : Nat → Prop) (w : World) (hS : (Kset).S w F A xs) (hF : ∀ b, F b → b < w.heap.size) (hm : xs.length ≤ 1000000000) :
    Calls Tryz.prog 34 #[.slice A xs.length cap] w fun e w' => ∃ v, e = .returned v ∧ OwnS Kset 33 w' w.heap.size (fun b => F b ∨ w.heap.size ≤ b) v xs ∧ Below w.heap.size w w' := by
  go_enter Tryz.func34, Tryz.ntmps34
  cases A with
  | none =>
    have hx : xs = [] := by
      apply Classical.byContradiction
      intro hx
      obtain ⟨b, off, inner, e, _⟩ := hS hx
      cases e
    subst hx
    have hnil : ∀ W, (binOp .eql 22 (.slice none 0 cap) (.slice none 0 0)).run Tryz.prog W = .ok (.bool true) W := fun W => Lib.run_eql_slice_nil W 22 33 none 0 cap 0 0 Tryz.underlying22
    go_wp2
    go_ret
    exact ⟨_, rfl, OwnS.nil _ _ _ _ _, Below.refl _ _⟩
  | some a =>
    have hnil : ∀ W, (binOp .eql 22 (.slice (some a) xs.length cap) (.slice none 0 0)).run Tryz.prog W = .ok (.bool false) W := fun W => Lib.run_eql_slice_nil W 22 33 (some a) xs.length cap 0 0 Tryz.underlying22
    go_wp2_with (at_builtin; go_loud (refine own_appendS Kset (w.alloc (.cells #[] 33)) w.heap.size rfl _ _ 22 33 (.agg #[.int .u64 0, .int .u64 0, .int .u64 0, .int .u64 0]) 32 rfl Tryz.underlying22 info_set rfl (by decide) (by decide) (.slice (some ⟨w.heap.size, 0, none⟩) 0 0) [] xs (some a) cap (fun b => F b ∨ w.heap.size ≤ b) F rfl rfl (hS.step (fun b _ hl => Below.heap_alloc w _ b hl)) (fun q c h => (Kset).mono (fun b hb => ⟨.inl hb, fun e => by have := hF b hb; simp [Value.ownBlock] at e; omega⟩) h) (OwnS.fresh _ _ w w.heap.size _ (Nat.le_refl _) (.inr (Nat.le_refl _))) (fun k hk => .inr (by simp at hk; omega)) (by simp) (by simp; omega) ?_); intro v1 w1 hO hM hv)
    go_ret
    exact ⟨_, rfl, by simpa using hO, Mov.below ((Below.refl _ _).alloc (Nat.le_refl _) _) hM (by simp) (fun k hk => by simp [Value.ownBlock] at hk; omega)⟩

set_option maxRecDepth 100000 in
theorem c_cloneInt (A : Option Addr) (cap : Nat) (xs : List _) (F : Nat → Prop) (w : World) (hS : (Kint).S w F A xs) (hF : ∀ b, F b → b < w.heap.size) (hm : xs.length ≤ 1000000000) :
    Calls Tryz.prog 37 #[.slice A xs.length cap] w fun e w' => ∃ v, e = .returned v ∧ OwnS Kint 3 w' w.heap.size (fun b => F b ∨ w.heap.size ≤ b) v xs ∧ Below w.heap.size w w' := by
  go_enter Tryz.func37, Tryz.ntmps37
  cases A with
  | none =>
    have hx : xs = [] := by
      apply Classical.byContradiction
      intro hx
      obtain ⟨b, off, inner, e, _⟩ := hS hx
      cases e
    subst hx
    have hnil : ∀ W, (binOp .eql 36 (.slice none 0 cap) (.slice none 0 0)).run Tryz.prog W = .ok (.bool true) W := fun W => Lib.run_eql_slice_nil W 36 3 none 0 cap 0 0 Tryz.underlying36
    go_wp2
    go_ret
    exact ⟨_, rfl, OwnS.nil _ _ _ _ _, Below.refl _ _⟩
  | some a =>
    have hnil : ∀ W, (binOp .eql 36 (.slice (some a) xs.length cap) (.slice none 0 0)).run Tryz.prog W = .ok (.bool false) W := fun W => Lib.run_eql_slice_nil W 36 3 (some a) xs.length cap 0 0 Tryz.underlying36
    go_wp2_with (at_builtin; go_loud (refine own_appendS Kint (w.alloc (.cells #[] 3)) w.heap.size rfl _ _ 36 3 (.int .i64 0) 8 rfl Tryz.underlying36 info_int rfl (by decide) (by decide) (.slice (some ⟨w.heap.size, 0, none⟩) 0 0) [] xs (some a) cap (fun b => F b ∨ w.heap.size ≤ b) F rfl rfl (hS.step (fun b _ hl => Below.heap_alloc w _ b hl)) (fun q c h => (Kint).mono (fun b hb => ⟨.inl hb, fun e => by have := hF b hb; simp [Value.ownBlock] at e; omega⟩) h) (OwnS.fresh _ _ w w.heap.size _ (Nat.le_refl _) (.inr (Nat.le_refl _))) (fun k hk => .inr (by simp at hk; omega)) (by simp) (by simp; omega) ?_); intro v1 w1 hO hM hv)
    go_ret
    exact ⟨_, rfl, by simpa using hO, Mov.below ((Below.refl _ _).alloc (Nat.le_refl _) _) hM (by simp) (fun k hk => by simp [Value.ownBlock] at hk; omega)⟩

set_option maxRecDepth 100000 in
theorem c_cloneInts (A : Option Addr) (cap : Nat) (xs : List _) (F : Nat → Prop) (w : World) (hS : (Kints).S w F A xs) (hF : ∀ b, F b → b < w.heap.size) (hm : xs.length ≤ 1000000000) :
    Calls Tryz.prog 13 #[.slice A xs.length cap] w fun e w' => ∃ v, e = .returned v ∧ OwnS Kints 36 w' w.heap.size (fun b => F b ∨ w.heap.size ≤ b) v xs ∧ Below w.heap.size w w' := by
  go_enter Tryz.func13, Tryz.ntmps13
  cases A with
  | none =>
    have hx : xs = [] := by
      apply Classical.byContradiction
      intro hx
      obtain ⟨b, off, inner, e, _⟩ := hS hx
      cases e
    subst hx
    have hnil : ∀ W, (binOp .eql 23 (.slice none 0 cap) (.slice none 0 0)).run Tryz.prog W = .ok (.bool true) W := fun W => Lib.run_eql_slice_nil W 23 36 none 0 cap 0 0 Tryz.underlying23
    go_wp2
    go_ret
    exact ⟨_, rfl, OwnS.nil _ _ _ _ _, Below.refl _ _⟩
  | some a =>
    have hnil : ∀ W, (binOp .eql 23 (.slice (some a) xs.length cap) (.slice none 0 0)).run Tryz.prog W = .ok (.bool false) W := fun W => Lib.run_eql_slice_nil W 23 36 (some a) xs.length cap 0 0 Tryz.underlying23
    go_wp2_with (at_builtin; go_loud (refine own_appendS Kints (w.alloc (.cells #[] 36)) w.heap.size rfl _ _ 23 36 (.slice none 0 0) 24 rfl Tryz.underlying23 info_ints rfl (by decide) (by decide) (.slice (some ⟨w.heap.size, 0, none⟩) 0 0) [] xs (some a) cap (fun b => F b ∨ w.heap.size ≤ b) F rfl rfl (hS.step (fun b _ hl => Below.heap_alloc w _ b hl)) (fun q c h => (Kints).mono (fun b hb => ⟨.inl hb, fun e => by have := hF b hb; simp [Value.ownBlock] at e; omega⟩) h) (OwnS.fresh _ _ w w.heap.size _ (Nat.le_refl _) (.inr (Nat.le_refl _))) (fun k hk => .inr (by simp at hk; omega)) (by simp) (by simp; omega) ?_); intro v1 w1 hO hM hv)
    go_ret
    exact ⟨_, rfl, by simpa using hO, Mov.below ((Below.refl _ _).alloc (Nat.le_refl _) _) hM (by simp) (fun k hk => by simp [Value.ownBlock] at hk; omega)⟩

theorem OwnS.tight {α : Type} {d : Kd α} {e : TypeId} {w : World} {base : Nat} {F : Nat → Prop} {v : Value} {xs : List α} (hR : ∀ G G' q c, d.R w G q c → d.R w G' q c) (h : OwnS d e w base F v xs) : OwnS d e w base (fun b => base ≤ b) v xs :=
  ⟨fun k hk => (h.lt k hk).1, h.2.imp fun inner hi => ⟨hi.1, hi.2.imp fun q c _ h => hR _ _ q c h⟩⟩
theorem tightSet {w : World} : ∀ (G G' : Nat → Prop) q c, Kset.R w G q c → Kset.R w G' q c := fun _ _ _ _ h => h
theorem tightInt {w : World} : ∀ (G G' : Nat → Prop) q c, Kint.R w G q c → Kint.R w G' q c := fun _ _ _ _ h => h
set_option maxRecDepth 100000 in
set_option maxHeartbeats 400000 in
theorem c_lists (A : Option Addr) (cap : Nat) (ll : List (List Int)) (F : Nat → Prop) (w : World) (hS : Kints.S w F A ll) (hm : ll.length ≤ 1000000000) (hml : ∀ l ∈ ll, l.length ≤ 1000000000) :
    Calls Tryz.prog 35 #[.slice A ll.length cap] w fun e w' => ∃ v, e = .returned v ∧ OwnS KintF 36 w' w.heap.size (fun b => w.heap.size ≤ b) v ll ∧ Below w.heap.size w w' := by
  go_enter Tryz.func35, Tryz.ntmps35
  go_wp2
  go_loopg [3, 8] (ll.length + 1) (fun gk v i wr => ∃ k : Nat, i = .int .i64 k ∧ k ≤ ll.length ∧ gk + k = ll.length + 1 ∧ Below w.heap.size w wr ∧ OwnS KintF 36 wr w.heap.size (fun b => w.heap.size ≤ b) v (ll.take k))
  case atStart => exact ⟨0, rfl, by omega, by omega, Below.refl _ _, OwnS.nil _ _ _ _ _⟩
  case round =>
    obtain ⟨k, rfl, hk, hgk, hB, hO⟩ := hrel
    have HG := Lib.hid hgk
    clear hgk
    by_cases hlt : k < ll.length
    · have hS1 := hS.bound.step (w1 := wr) fun b hb hl => hB.block b hl
      obtain ⟨b2, o2, B2, cp2, rfl, hF2, hb2, p2, hl', hm', hS2⟩ := S_slice hS1 hlt
      have hk0 : (0 : Int) ≤ k := by omega
      have hk1 : (k : Int) < ll.length := by omega
      have htk : ll.take (k + 1) = ll.take k ++ [ll[k]] := by rw [List.take_add_one, List.getElem?_eq_getElem hlt]; rfl
      have hxl := hml _ (List.getElem_mem hlt)
      have hle : (ll.take k).length ≤ ll.length := by simp; omega
      have hcl := c_cloneInt B2 cp2 ll[k] _ wr hS2 (fun b hb => Nat.lt_of_lt_of_le hb.2 hB.size) hxl
      obtain ⟨Av, cv, rfl, hv1, hv2, hv3⟩ := hO.reads
      generalize ll[k] = x at *
      generalize ll.take k = tk at *
      have HT := Lib.hid htk
      clear htk hv1 hv3
      go_wp2_with (first
        | (go_at_call 37; refine hcl.mono ?_; rintro e w1 ⟨v1, rfl, hO1, hB1⟩
           obtain ⟨A1, c1, rfl, ha1, ha2, ha3⟩ := hO1.reads
           have hEl := (OwnS.tight tightInt hO1).sliceF)
        | (at_builtin; go_loud (refine own_append KintF w1 w.heap.size w1.heap.size rfl _ _ 23 36 (.slice none 0 0) 24 rfl Tryz.underlying23 info_ints rfl (by decide) (by decide) (.slice Av tk.length cv) tk x [.slice A1 x.length c1] (fun b => w.heap.size ≤ b) rfl rfl (by simp) (KintF.mono (fun b hb => ⟨Nat.le_trans hB.size hb, fun e => by have := (hO.lt b e.symm).2; omega⟩) hEl) (hO.step fun b _ hl => hB1.block b hl) (fun k' hk' => Nat.le_trans hB.size (Nat.le_trans hB1.size hk')) (Nat.le_trans hB.size hB1.size) (by omega) ?_); intro v2 w2 hO2 hM2 hv2))
      go_roundg (gk - 1)
      case measure => have := HG.out; omega
      case rel => exact ⟨k + 1, by go_num, by omega, by have := HG.out; omega, Mov.below (hB.trans (hB1.mono hB.size)) hM2 (Nat.le_trans hB.size hB1.size) (fun k' hk' => (hO.lt k' hk').1), by rw [HT.out]; exact hO2⟩
    · obtain rfl : k = ll.length := by omega
      rw [List.take_length] at hO
      obtain ⟨Av, cv, rfl, hv1, hv2, hv3⟩ := hO.reads
      go_wp2
      go_ret
      exact ⟨_, rfl, hO, hB⟩
/-- An automaton of one's own: its rows are new. -/
structure DfaO (w : World) (base : Nat) (h : DA) (d : Dfa) : Prop where
  o1 : OwnS Kset 33 w base (fun b => base ≤ b) (.slice h.A1 d.cls.length h.c1) d.cls
  o2 : OwnS KintF 36 w base (fun b => base ≤ b) (.slice h.A2 d.next.length h.c2) d.next
  o3 : OwnS KintF 36 w base (fun b => base ≤ b) (.slice h.A3 d.marks.length h.c3) d.marks
theorem slice_inj {A A' : Option Addr} {n n' c c' : Nat} (h : Value.slice A n c = .slice A' n' c') : A = A' ∧ n = n' ∧ c = c' := by
  injection h with h1 h2 h3; exact ⟨h1, h2, h3⟩
theorem DfaO.reads {w : World} {base : Nat} {h : DA} {d : Dfa} (o : DfaO w base h d) : DfaR w (fun b => base ≤ b) h d := by
  obtain ⟨A1, c1, e1, l1, m1, s1⟩ := o.o1.reads
  obtain ⟨A2, c2, e2, l2, m2, s2⟩ := o.o2.reads
  obtain ⟨A3, c3, e3, l3, m3, s3⟩ := o.o3.reads
  obtain ⟨x1, _, y1⟩ := slice_inj e1
  obtain ⟨x2, _, y2⟩ := slice_inj e2
  obtain ⟨x3, _, y3⟩ := slice_inj e3
  exact ⟨by rw [x1]; exact s1, by rw [x2]; exact S_forget s2, by rw [x3]; exact S_forget s3, by rw [y1]; exact l1, by rw [y2]; exact l2, by rw [y3]; exact l3, by rw [y1]; exact m1, by rw [y2]; exact m2, by rw [y3]; exact m3⟩
theorem DfaO.below {w w' : World} {base : Nat} {h : DA} {d : Dfa} (o : DfaO w base h d) (hb : Below w.heap.size w w') : DfaO w' base h d :=
  ⟨o.o1.step fun b _ hl => hb.block b hl, o.o2.step fun b _ hl => hb.block b hl, o.o3.step fun b _ hl => hb.block b hl⟩
theorem DfaO.lower {w : World} {base base' : Nat} {h : DA} {d : Dfa} (o : DfaO w base h d) (hb : base' ≤ base) : DfaO w base' h d :=
  ⟨(o.o1.lower hb).mono fun _ h => Nat.le_trans hb h, (o.o2.lower hb).mono fun _ h => Nat.le_trans hb h, (o.o3.lower hb).mono fun _ h => Nat.le_trans hb h⟩
/-- An automaton of one's own whose three rows lie apart. -/
structure DfaX (w : World) (base B1 B2 : Nat) (h : DA) (d : Dfa) : Prop where
  h1 : base ≤ B1
  h2 : B1 ≤ B2
  o1 : OwnS Kset 33 w base (fun b => base ≤ b ∧ b < B1) (.slice h.A1 d.cls.length h.c1) d.cls
  o2 : OwnS KintF 36 w base (fun b => B1 ≤ b ∧ b < B2) (.slice h.A2 d.next.length h.c2) d.next
  o3 : OwnS KintF 36 w base (fun b => B2 ≤ b) (.slice h.A3 d.marks.length h.c3) d.marks
theorem DfaX.own {w : World} {base B1 B2 : Nat} {h : DA} {d : Dfa} (x : DfaX w base B1 B2 h d) : DfaO w base h d :=
  ⟨x.o1.mono fun _ hb => hb.1, x.o2.mono fun _ hb => Nat.le_trans x.h1 hb.1, x.o3.mono fun _ hb => Nat.le_trans x.h1 (Nat.le_trans x.h2 hb)⟩
/-- Sizes that a machine bears. -/
structure DfaS (d : Dfa) : Prop where
  b1 : d.cls.length ≤ 1000000000
  b2 : d.next.length ≤ 1000000000
  b3 : d.marks.length ≤ 1000000000
  b4 : ∀ l ∈ d.next, l.length ≤ 1000000000
  b5 : ∀ l ∈ d.marks, l.length ≤ 1000000000
set_option maxRecDepth 100000 in
set_option maxHeartbeats 800000 in
theorem c_copyX (h : DA) (d : Dfa) (F : Nat → Prop) (w : World) (hR : DfaR w F h d) (hb : DfaS d) :
    Calls Tryz.prog 14 #[dfaV h d] w fun e w' => ∃ h' B1 B2, e = .returned (dfaV h' d) ∧ DfaX w' w.heap.size B1 B2 h' d ∧ Below w.heap.size w w' := by
  obtain ⟨A1, k1, A2, k2, A3, k3⟩ := h
  obtain ⟨s1, s2, s3, l1, l2, l3, m1, m2, m3⟩ := hR
  dsimp only at s1 s2 s3 l1 l2 l3 m1 m2 m3
  simp only [dfaV, dfaC]
  go_enter Tryz.func14, Tryz.ntmps14
  go_wp2_with fail
  refine wp_name fun W1 hW1 => ?_
  have q0 : W1.cell? ⟨w.heap.size, 0, none⟩ = some (.slice A1 d.cls.length k1) := by rw [← hW1]; clear hW1; go_simp
  have q1 : W1.cell? ⟨w.heap.size, 1, none⟩ = some (.slice A2 d.next.length k2) := by rw [← hW1]; clear hW1; go_simp
  have q2 : W1.cell? ⟨w.heap.size, 2, none⟩ = some (.slice A3 d.marks.length k3) := by rw [← hW1]; clear hW1; go_simp
  have q3 : W1.cell? ⟨w.heap.size + 1, 0, none⟩ = some (.slice none 0 0) ∧ W1.cell? ⟨w.heap.size + 1, 1, none⟩ = some (.slice none 0 0) ∧ W1.cell? ⟨w.heap.size + 1, 2, none⟩ = some (.slice none 0 0) := by rw [← hW1]; clear hW1; refine ⟨?_, ?_, ?_⟩ <;> go_simp
  have q4 : ∀ j, W1.frozen? ⟨w.heap.size + 1, j, none⟩ = false := by intro j; rw [← hW1]; clear hW1; go_simp
  have hE1 : Ext w W1 := by rw [← hW1]; exact ((Ext.refl _).alloc _).alloc _
  have hz1 : w.heap.size < W1.heap.size := by rw [← hW1]; simp; omega
  have hz2 : w.heap.size + 1 < W1.heap.size := by rw [← hW1]; simp
  clear hW1
  have h1 := c_cloneSet A1 k1 d.cls _ W1.drew (s1.bound.step fun b hb hl => hE1.below.block b hl) (fun b hb => Nat.lt_of_lt_of_le hb.2 hE1.size) hb.b1
  have h2 := fun W' (hW' : Below w.heap.size w W') => c_lists A2 k2 d.next _ W' (s2.step fun b hb hl => hW'.block b hl) hb.b2 hb.b4
  have h3 := fun W' (hW' : Below w.heap.size w W') => c_lists A3 k3 d.marks _ W' (s3.step fun b hb hl => hW'.block b hl) hb.b3 hb.b5
  go_region_held3 (fun w' => (w'.cell? ⟨w.heap.size, 0, none⟩ = some (.slice A1 d.cls.length k1)) ∧ (w'.cell? ⟨w.heap.size, 1, none⟩ = some (.slice A2 d.next.length k2)) ∧ (w'.cell? ⟨w.heap.size, 2, none⟩ = some (.slice A3 d.marks.length k3)))
    (first | exact ⟨q0, q1, q2⟩ | exact ⟨r0, r1, r2⟩ | go_keep)
    ((first
      | ((with_reducible refine h1.mono ?_)
         rintro e w1 ⟨v1, rfl, hO1, hB1⟩
         obtain ⟨a1, c1, rfl, _, _, _⟩ := hO1.reads
         have r0 := bcellS (w := W1.drew) hB1 q0
         have r1 := bcellS (w := W1.drew) hB1 q1
         have r2 := bcellS (w := W1.drew) hB1 q2
         have hBw1 := hE1.drew.below.trans (hB1.mono hE1.drew.size))
      | ((with_reducible refine (h2 _ hBw1).mono ?_)
         rintro e w2 ⟨v2, rfl, hO2, hB2⟩
         obtain ⟨a2, c2, rfl, _, _, _⟩ := hO2.reads
         have r0 := bcellS hB2 r0
         have r1 := bcellS hB2 r1
         have r2 := bcellS hB2 r2
         have hBw2 := hBw1.trans (hB2.mono hBw1.size))
      | ((with_reducible refine (h3 _ hBw2).mono ?_)
         rintro e w3 ⟨v3, rfl, hO3, hB3⟩
         obtain ⟨a3, c3, rfl, _, _, _⟩ := hO3.reads
         have r0 := bcellS hB3 r0
         have r1 := bcellS hB3 r1
         have r2 := bcellS hB3 r2
         have hBw3 := hBw2.trans (hB3.mono hBw2.size)
         have hBx : Below W1.heap.size W1 w3 := ((Below.refl _ W1).drew.trans hB1).trans ((hB2.mono hB1.size).trans (hB3.mono (Nat.le_trans hB1.size hB2.size)))
         have t0 := bcellS hBx q3.1
         have t1 := bcellS hBx q3.2.1
         have t2 := bcellS hBx q3.2.2
         have t3 : ∀ j, w3.frozen? ⟨w.heap.size + 1, j, none⟩ = false := fun j => (hBx.frozen (p := ⟨w.heap.size + 1, j, none⟩) hz2).trans (q4 j))))
  have hz3 : W1.heap.size ≤ w3.heap.size := hBx.size
  have hO1' := OwnS.tight tightSet hO1
  have hO2' := hO2
  have hO3' := hO3
  clear hO1 hO2 hO3 h1 h2 h3 q0 q1 q2 q3 q4 r0 r1 r2
  go_wp2
  have u0 : (((w3.setCell ⟨w.heap.size + 1, 0, none⟩ (.slice a1 d.cls.length c1)).setCell ⟨w.heap.size + 1, 1, none⟩ (.slice a2 d.next.length c2)).setCell ⟨w.heap.size + 1, 2, none⟩ (.slice a3 d.marks.length c3)).cell? ⟨w.heap.size + 1, 0, none⟩ = some (.slice a1 d.cls.length c1) := by go_simp
  have u1 : (((w3.setCell ⟨w.heap.size + 1, 0, none⟩ (.slice a1 d.cls.length c1)).setCell ⟨w.heap.size + 1, 1, none⟩ (.slice a2 d.next.length c2)).setCell ⟨w.heap.size + 1, 2, none⟩ (.slice a3 d.marks.length c3)).cell? ⟨w.heap.size + 1, 1, none⟩ = some (.slice a2 d.next.length c2) := by go_simp
  have u2 : (((w3.setCell ⟨w.heap.size + 1, 0, none⟩ (.slice a1 d.cls.length c1)).setCell ⟨w.heap.size + 1, 1, none⟩ (.slice a2 d.next.length c2)).setCell ⟨w.heap.size + 1, 2, none⟩ (.slice a3 d.marks.length c3)).cell? ⟨w.heap.size + 1, 2, none⟩ = some (.slice a3 d.marks.length c3) := by go_simp
  have hst : ∀ b, W1.heap.size ≤ b → (((w3.setCell ⟨w.heap.size + 1, 0, none⟩ (.slice a1 d.cls.length c1)).setCell ⟨w.heap.size + 1, 1, none⟩ (.slice a2 d.next.length c2)).setCell ⟨w.heap.size + 1, 2, none⟩ (.slice a3 d.marks.length c3)).heap[b]? = w3.heap[b]? := fun b hb =>
    ((Below.heap_setCell _ _ _ b (by simp; omega)).trans (Below.heap_setCell _ _ _ b (by simp; omega))).trans (Below.heap_setCell _ _ _ b (by simp; omega))
  have hBf : Below w.heap.size w (((w3.setCell ⟨w.heap.size + 1, 0, none⟩ (.slice a1 d.cls.length c1)).setCell ⟨w.heap.size + 1, 1, none⟩ (.slice a2 d.next.length c2)).setCell ⟨w.heap.size + 1, 2, none⟩ (.slice a3 d.marks.length c3)) :=
    ((hBw3.setCell (by simp) _).setCell (by simp) _).setCell (by simp) _
  generalize (((w3.setCell ⟨w.heap.size + 1, 0, none⟩ (.slice a1 d.cls.length c1)).setCell ⟨w.heap.size + 1, 1, none⟩ (.slice a2 d.next.length c2)).setCell ⟨w.heap.size + 1, 2, none⟩ (.slice a3 d.marks.length c3)) = WF at *
  refine bodyPost_ret (v := dfaV ⟨a1, c1, a2, c2, a3, c3⟩ d) (by simp [results, Tryz.results14, go_sem, u0, u1, u2]) rfl ⟨⟨a1, c1, a2, c2, a3, c3⟩, w1.heap.size, w2.heap.size, rfl, ⟨Nat.le_trans hE1.drew.size hB1.size, hB2.size, ?_, ?_, ?_⟩, hBf⟩
  · exact ((hO1'.bound.step (w1 := WF) fun b hb hl => (hst b hb.1).trans ((hB3.block b (Nat.lt_of_lt_of_le hl hB2.size)).trans (hB2.block b hl))).lower hE1.drew.size).mono fun b hb => ⟨Nat.le_trans hE1.drew.size hb.1, hb.2⟩
  · exact ((hO2'.bound.step (w1 := WF) fun b hb hl => (hst b (Nat.le_trans hB1.size hb.1)).trans (hB3.block b hl)).lower hBw1.size).mono fun b hb => hb
  · exact ((hO3'.step (w1 := WF) fun b hb hl => hst b (Nat.le_trans hB1.size (Nat.le_trans hB2.size hb))).lower hBw2.size).mono fun b hb => hb
theorem c_copy (h : DA) (d : Dfa) (F : Nat → Prop) (w : World) (hR : DfaR w F h d) (hb : DfaS d) :
    Calls Tryz.prog 14 #[dfaV h d] w fun e w' => ∃ h', e = .returned (dfaV h' d) ∧ DfaO w' w.heap.size h' d ∧ Below w.heap.size w w' := by
  refine (c_copyX h d F w hR hb).mono ?_
  rintro e w' ⟨h', B1, B2, rfl, hX, hB⟩
  exact ⟨h', rfl, hX.own, hB⟩
end Go.Proofs
end

section
set_option linter.unusedVariables false
set_option linter.unusedSimpArgs false
namespace Rp
open Go Go.RowKit
def sayB (op : Nat) (a b : Bool) : Bool := match op with | 1 => a && b | 2 => a || b | 3 => a && !b | _ => a != b
end Rp
namespace Go.Proofs
open Go.RowKit Go.Shelf Rp
attribute [local go_sem] Oper.semAt_some
def sayF (op : Nat) : Value := match op with | 1 => .func (.func 61) #[] #[] | 2 => .func (.func 62) #[] #[] | 3 => .func (.func 63) #[] #[] | 4 => .func (.func 64) #[] #[] | _ => .nilFunc
theorem c_says (op : Nat) (w : World) (h : op < 256) : Calls Tryz.prog 46 #[.int .u8 (op : Int)] w fun e w' => e = .returned (sayF op) ∧ w' = w := by
  by_cases h1 : op = 1
  · subst h1; go_enter Tryz.func46, Tryz.ntmps46; go_wp2; go_ret; exact ⟨rfl, rfl⟩
  by_cases h2 : op = 2
  · subst h2; go_enter Tryz.func46, Tryz.ntmps46; go_wp2; go_ret; exact ⟨rfl, rfl⟩
  by_cases h3 : op = 3
  · subst h3; go_enter Tryz.func46, Tryz.ntmps46; go_wp2; go_ret; exact ⟨rfl, rfl⟩
  by_cases h4 : op = 4
  · subst h4; go_enter Tryz.func46, Tryz.ntmps46; go_wp2; go_ret; exact ⟨rfl, rfl⟩
  have hs : sayF op = .nilFunc := by
    unfold sayF
    split <;> simp_all
  rw [hs]
  have e1 : ((op : Int) == 1) = false := by simp; omega
  have e2 : ((op : Int) == 2) = false := by simp; omega
  have e3 : ((op : Int) == 3) = false := by simp; omega
  have e4 : ((op : Int) == 4) = false := by simp; omega
  have f1 : ¬ (op : Int) = 1 := by omega
  have f2 : ¬ (op : Int) = 2 := by omega
  have f3 : ¬ (op : Int) = 3 := by omega
  have f4 : ¬ (op : Int) = 4 := by omega
  go_enter Tryz.func46, Tryz.ntmps46
  go_wp2
  go_ret
  exact ⟨rfl, rfl⟩

theorem c_is1 (a b : Bool) (w : World) : Calls Tryz.prog 61 #[.bool a, .bool b] w fun e w' => e = .returned (.bool (sayB 1 a b)) ∧ w' = w := by
  cases a <;> cases b <;> (go_enter Tryz.func61, Tryz.ntmps61; go_wp2; go_ret; exact ⟨rfl, rfl⟩)

theorem c_is2 (a b : Bool) (w : World) : Calls Tryz.prog 62 #[.bool a, .bool b] w fun e w' => e = .returned (.bool (sayB 2 a b)) ∧ w' = w := by
  cases a <;> cases b <;> (go_enter Tryz.func62, Tryz.ntmps62; go_wp2; go_ret; exact ⟨rfl, rfl⟩)

theorem c_is3 (a b : Bool) (w : World) : Calls Tryz.prog 63 #[.bool a, .bool b] w fun e w' => e = .returned (.bool (sayB 3 a b)) ∧ w' = w := by
  cases a <;> cases b <;> (go_enter Tryz.func63, Tryz.ntmps63; go_wp2; go_ret; exact ⟨rfl, rfl⟩)

theorem c_is4 (a b : Bool) (w : World) : Calls Tryz.prog 64 #[.bool a, .bool b] w fun e w' => e = .returned (.bool (sayB 4 a b)) ∧ w' = w := by
  cases a <;> cases b <;> (go_enter Tryz.func64, Tryz.ntmps64; go_wp2; go_ret; exact ⟨rfl, rfl⟩)

end Go.Proofs
end

section
set_option linter.unusedVariables false
set_option linter.unusedSimpArgs false
namespace Rp
open Go
section
variable {P : Program} {ops : Array Oper} {Q : Exit → Act → World → Prop} {md : Region.Mode} {S : World → Prop} {L : List Nat}
/-- Is there one in L that number j does not wait for? -/
def needT (md : Region.Mode) (ops : Array Oper) (L : List Nat) (j : Nat) : Bool := L.any fun k => !(Region.waitsFor md ops j k)
def wpAnyT (P : Program) (md : Region.Mode) (ops : Array Oper) (Q : Exit → Act → World → Prop) (S : World → Prop) (L : List Nat) : Nat → Array Bool → Act → World → Prop
  | 0, listed, a, w => Region.ready md ops listed = [] ∧ Q .normal a w
  | fuel + 1, listed, a, w =>
    (Region.ready md ops listed = [] → Q .normal a w) ∧
    ∀ i ∈ Region.ready md ops listed, wpOp P ops Q i (fun a' w' => (needT md ops L i = true → S w → S w') ∧ wpAnyT P md ops Q S L fuel (listed.setIfInBounds i true) a' w') a w
theorem wpAny_of_T : ∀ (fuel : Nat) (listed : Array Bool) (a : Act) (w : World), wpAnyT P md ops Q S L fuel listed a w → wpAny P md ops Q fuel listed a w
  | 0, _, _, _, h => h
  | fuel + 1, _, _, _, h => ⟨h.1, fun i hi => wpOp_mono (fun a' w' h' => wpAny_of_T fuel _ a' w' h'.2) (h.2 i hi)⟩
theorem wpAnyT_first {i : Nat} {oi : Oper} {v : Value} (hL : i ∈ L) (hi : ops[i]? = some oi) (hsel : ∀ (j : Nat) (o : Oper) cs b, ops[j]? = some o → o.op ≠ .select cs b)
    (hQ : ∀ c a w, Q (.panic c) (a.put oi.dst v) w → Q (.panic c) a w) :
    ∀ (fuel : Nat) (listed : Array Bool) (a : Act) (w : World),
      (∀ j oj, ops[j]? = some oj → j ≠ i → listed.getD j true = false → (∀ e ∈ oj.after, Region.binds md e = true → e.on ≠ i) → oi.apart ops oj = true) →
      i ∈ Region.ready md ops listed → YieldsIf P ops S oi v a → S w →
      wpAnyT P md ops Q S L fuel (listed.setIfInBounds i true) (a.put oi.dst v) w → wpAnyT P md ops Q S L (fuel + 1) listed a w := by
  intro fuel
  induction fuel with
  | zero =>
    intro listed a w _ hr hy hS H
    refine ⟨fun h => (by rw [h] at hr; cases hr), fun j hj => ?_⟩
    by_cases hji : j = i
    · subst hji; exact hy.wpOp hi hS ⟨fun _ h => h, H⟩
    · have := ready_mono hj hji
      rw [H.1] at this
      cases this
  | succ fuel ih =>
    intro listed a w hfree hr hy hS H
    refine ⟨fun h => (by rw [h] at hr; cases hr), fun j hj => ?_⟩
    by_cases hji : j = i
    · subst hji; exact hy.wpOp hi hS ⟨fun _ h => h, H⟩
    · have h1 := H.2 j (ready_mono hj hji)
      obtain ⟨hjun, oj, hoj, hall⟩ := mem_ready.1 hj
      have hnot : ∀ e ∈ oj.after, Region.binds md e = true → e.on ≠ i := fun e he hb heq => by
        have h1 := hall e he hb
        have h0 := (mem_ready.1 hr).1
        rw [heq] at h1
        rcases Nat.lt_or_ge i listed.size with h' | h'
        · simp [h'] at h0 h1; rw [h0] at h1; cases h1
        · simp [Array.getElem?_eq_none h'] at h1
      have hneed : needT md ops L j = true := by
        refine List.any_eq_true.2 ⟨i, hL, ?_⟩
        cases hw : Region.waitsFor md ops j i with
        | false => rfl
        | true =>
          obtain ⟨oj', hoj', e, he, hb, heq⟩ := Region.waitsFor_spec hw
          rw [hoj] at hoj'
          cases hoj'
          exact absurd heq (hnot e he hb)
      have h2 := wpOp_putIf hoj (hfree j oj hoj hji hjun hnot) (fun cs b => hsel i oi cs b hi) (fun cs b => hsel j oj cs b hoj) hQ hy h1
      have hfree' : ∀ k ok, ops[k]? = some ok → k ≠ i → (listed.setIfInBounds j true).getD k true = false →
          (∀ e ∈ ok.after, Region.binds md e = true → e.on ≠ i) → oi.apart ops ok = true := fun k ok hk hki hun hno => by
        refine hfree k ok hk hki ?_ hno
        by_cases hjk : j = k
        · subst hjk; exact hjun
        · rw [getD_set_ne true hjk] at hun; exact hun
      refine wpOp_mono (fun a' w' h3 => ⟨h3.2.1, ih (listed.setIfInBounds j true) a' w' hfree' (ready_mono hr (Ne.symm hji)) h3.1 (h3.2.1 hneed hS) ?_⟩) h2
      rw [Array.setIfInBounds_comm _ _ hji]
      exact h3.2.2
theorem wpAnyT_firstY {i : Nat} {oi : Oper} {v : Value} (hi : ops[i]? = some oi) (hsel : ∀ (j : Nat) (o : Oper) cs b, ops[j]? = some o → o.op ≠ .select cs b)
    (hQ : ∀ c a w, Q (.panic c) (a.put oi.dst v) w → Q (.panic c) a w) :
    ∀ (fuel : Nat) (listed : Array Bool) (a : Act) (w : World),
      (∀ j oj, ops[j]? = some oj → j ≠ i → listed.getD j true = false → (∀ e ∈ oj.after, Region.binds md e = true → e.on ≠ i) → oi.apart ops oj = true) →
      i ∈ Region.ready md ops listed → YieldsIf P ops (fun _ => True) oi v a →
      wpAnyT P md ops Q S L fuel (listed.setIfInBounds i true) (a.put oi.dst v) w → wpAnyT P md ops Q S L (fuel + 1) listed a w := by
  intro fuel
  induction fuel with
  | zero =>
    intro listed a w _ hr hy H
    refine ⟨fun h => (by rw [h] at hr; cases hr), fun j hj => ?_⟩
    by_cases hji : j = i
    · subst hji; exact hy.wpOp hi trivial ⟨fun _ h => h, H⟩
    · have := ready_mono hj hji
      rw [H.1] at this
      cases this
  | succ fuel ih =>
    intro listed a w hfree hr hy H
    refine ⟨fun h => (by rw [h] at hr; cases hr), fun j hj => ?_⟩
    by_cases hji : j = i
    · subst hji; exact hy.wpOp hi trivial ⟨fun _ h => h, H⟩
    · have h1 := H.2 j (ready_mono hj hji)
      obtain ⟨hjun, oj, hoj, hall⟩ := mem_ready.1 hj
      have hnot : ∀ e ∈ oj.after, Region.binds md e = true → e.on ≠ i := fun e he hb heq => by
        have h1 := hall e he hb
        have h0 := (mem_ready.1 hr).1
        rw [heq] at h1
        rcases Nat.lt_or_ge i listed.size with h' | h'
        · simp [h'] at h0 h1; rw [h0] at h1; cases h1
        · simp [Array.getElem?_eq_none h'] at h1
      have h2 := wpOp_putIf hoj (hfree j oj hoj hji hjun hnot) (fun cs b => hsel i oi cs b hi) (fun cs b => hsel j oj cs b hoj) hQ hy h1
      have hfree' : ∀ k ok, ops[k]? = some ok → k ≠ i → (listed.setIfInBounds j true).getD k true = false →
          (∀ e ∈ ok.after, Region.binds md e = true → e.on ≠ i) → oi.apart ops ok = true := fun k ok hk hki hun hno => by
        refine hfree k ok hk hki ?_ hno
        by_cases hjk : j = k
        · subst hjk; exact hjun
        · rw [getD_set_ne true hjk] at hun; exact hun
      refine wpOp_mono (fun a' w' h3 => ⟨h3.2.1, ih (listed.setIfInBounds j true) a' w' hfree' (ready_mono hr (Ne.symm hji)) h3.1 ?_⟩) h2
      rw [Array.setIfInBounds_comm _ _ hji]
      exact h3.2.2
theorem wpAnyT_takeY {i : Nat} {oi : Oper} {v : Value} {fuel : Nat} {listed : Array Bool} {a : Act} {w : World} (hi : ops.toList[i]? = some oi)
    (hs : Region.noSelect ops = true) (hf : Region.free md ops listed i = true) (hr : (Region.ready md ops listed).contains i = true)
    (hQ : ∀ c a w, Q (.panic c) (a.put oi.dst v) w → Q (.panic c) a w) (hw : Region.wanted oi (yielded ops a.tmps) = true) (hy : ∀ w, (execOp a.eval oi).run P w = .ok (.value v) w)
    (h : wpAnyT P md ops Q S L fuel (listed.setIfInBounds i true) (a.put oi.dst v) w) : wpAnyT P md ops Q S L (fuel + 1) listed a w :=
  have hi' : ops[i]? = some oi := by rw [← hi]; simp
  wpAnyT_firstY hi' (Region.noSelect_spec hs) hQ fuel listed a w (Region.free_spec hi' hf) (by simpa using hr) (.inl ⟨hw, fun w _ => hy w⟩) h
theorem wpAnyT_take {i : Nat} {oi : Oper} {v : Value} {fuel : Nat} {listed : Array Bool} {a : Act} {w : World} (hL : L.contains i = true) (hi : ops.toList[i]? = some oi)
    (hs : Region.noSelect ops = true) (hf : Region.free md ops listed i = true) (hr : (Region.ready md ops listed).contains i = true)
    (hQ : ∀ c a w, Q (.panic c) (a.put oi.dst v) w → Q (.panic c) a w) (hw : Region.wanted oi (yielded ops a.tmps) = true) (hS : S w) (hy : ∀ w, S w → (execOp a.eval oi).run P w = .ok (.value v) w)
    (h : wpAnyT P md ops Q S L fuel (listed.setIfInBounds i true) (a.put oi.dst v) w) : wpAnyT P md ops Q S L (fuel + 1) listed a w :=
  have hi' : ops[i]? = some oi := by rw [← hi]; simp
  wpAnyT_first (by simpa using hL) hi' (Region.noSelect_spec hs) hQ fuel listed a w (Region.free_spec hi' hf) (by simpa using hr) (.inl ⟨hw, hy⟩) hS h
/-- The one that may come up. -/
theorem wpAnyT_one {i : Nat} {o : Oper} {fuel : Nat} {listed : Array Bool} {a : Act} {w : World} (hi : ops.toList[i]? = some o) (hr : Region.ready md ops listed = [i]) (hw : Region.wanted o (yielded ops a.tmps) = true)
    (h : ∀ K : Act → World → Prop, (∀ a' w', (needT md ops L i = true → S w → S w') → wpAnyT P md ops Q S L fuel (listed.setIfInBounds i true) a' w' → K a' w') → Oper.wp P o a w K Q) : wpAnyT P md ops Q S L (fuel + 1) listed a w := by
  have hi' : ops[i]? = some o := by rw [← hi]; simp
  refine ⟨fun h0 => (by rw [hr] at h0; cases h0), fun j hj => ?_⟩
  rw [hr] at hj
  obtain rfl : j = i := by simpa using hj
  unfold wpOp
  simp only [hi', hw, if_true]
  exact .inl (h _ fun a' w' h1 h2 => ⟨h1, h2⟩)
theorem wpAnyT_done {listed : Array Bool} {a : Act} {w : World} (hr : Region.ready md ops listed = []) (h : Q .normal a w) :
    ∀ fuel, wpAnyT P md ops Q S L fuel listed a w
  | 0 => ⟨hr, h⟩
  | _ + 1 => ⟨fun _ => h, by rw [hr]; simp⟩
theorem no_need {b : Bool} {p : Prop} (h : b = false) : b = true → p := fun h' => by rw [h] at h'; cases h'
theorem wp_region_T (S : World → Prop) (L : List Nat) {id : Nat} {a : Act} {w : World} (hm : P.follows .mixedOrders = true)
    (h : wpAnyT P .any ops Q S L ops.size (Array.replicate ops.size false) a w.drew) : (Code.region id ops true).wp P Q a w :=
  wp_region_any hm (wpAny_of_T _ _ _ _ h)
end
end Rp
end
