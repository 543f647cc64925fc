/- Is an automaton that of the reference? Two automata that are made and laid side by side. Sets of letters. Rows that are laid as literals; an automaton that is made state by state. -/
import Derived.Test.YtmfijgigfianeaaGreatGrTheirs
import Derived.Test.YtmfijgigfianeaaGreatGrFar
import Derived.Test.YtmfijgigfianeaaGreatGrSmall
section
set_option linter.unusedVariables false
set_option linter.unusedSimpArgs false
namespace Rp
def sameD (d x : Dfa) : Bool := decide (d.cls = x.cls) && (decide (d.next = x.next) && decide (d.marks = x.marks))
theorem sameD_refl (d : Dfa) : sameD d d = true := by simp [sameD]
end Rp
namespace Go.Proofs
open Go.RowKit Go.Shelf Rp Go.Maps
attribute [local go_sem] Oper.semAt_some
set_option maxRecDepth 100000 in
set_option maxHeartbeats 3200000 in
theorem c_same0 (A1 A2 A3 B1 B2 B3 : Option Addr) (k1 k2 k3 m1 m2 m3 : Nat) (d x : Dfa) (F G : Nat → Prop) (w : World) (s1 : Kset.S w F A1 d.cls) (s2 : Kints.S w F A2 d.next) (s3 : Kints.S w F A3 d.marks) (hs : DfaS d)
    (u1 : Kref.S w G B1 x.cls) (u2 : Kints.S w G B2 x.next) (u3 : Kints.S w G B3 x.marks) :
    Calls Tryz.prog 16 #[.agg #[.slice A1 d.cls.length k1, .slice A2 d.next.length k2, .slice A3 d.marks.length k3], .agg #[.slice B1 x.cls.length m1, .slice B2 x.next.length m2, .slice B3 x.marks.length m3]] w
      fun e w' => e = .returned (.bool (sameD d x)) ∧ Below w.heap.size w w' := by
  have hth := fun W' (hW' : Below w.heap.size w W') => c_theirs0 A1 A2 A3 k1 k2 k3 d F W' (S_below s1 hW') (S_below s2 hW') (S_below s3 hW') hs
  go_enter Tryz.func16, Tryz.ntmps16
  go_upto_region 1 with (fail)
  refine wp_name fun W0 hW0 => ?_
  have q0 : W0.heap[w.heap.size]? = some (.cells #[.slice A1 d.cls.length k1, .slice A2 d.next.length k2, .slice A3 d.marks.length k3] 25 (0, 0)) := by
    rw [← hW0]; exact (Below.heap_alloc _ _ _ (by simp)).trans (World.alloc_heap_new w _)
  have q1 : W0.heap[w.heap.size + 1]? = some (.cells #[.slice B1 x.cls.length m1, .slice B2 x.next.length m2, .slice B3 x.marks.length m3] 42 (0, 0)) := by
    rw [← hW0]; have := World.alloc_heap_new (w.alloc (.cells #[.slice A1 d.cls.length k1, .slice A2 d.next.length k2, .slice A3 d.marks.length k3] 25 (0, 0))) (.cells #[.slice B1 x.cls.length m1, .slice B2 x.next.length m2, .slice B3 x.marks.length m3] 42 (0, 0)); simpa using this
  have hE0 : Ext w W0 := by rw [← hW0]; exact ((Ext.refl _).alloc _).alloc _
  have hz0 : W0.heap.size = w.heap.size + 2 := by rw [← hW0]; simp
  clear hW0
  obtain ⟨b0, b1, b2⟩ := cells3 q0
  have hb1 := hs.b1
  have hb2 := hs.b2
  have hb3 := hs.b3
  have HS := Lib.hid hs
  clear hs q0
  go_upto_region 2 with (first | (go_at_call 15; refine (hth W0 hE0.below).mono ?_; rintro e w1 ⟨h', rfl, hO, hB1⟩; obtain ⟨C1, j1, C2, j2, C3, j3⟩ := h'; try dsimp only [dfaV, dfaC]))
  refine wp_name fun W2 hW2 => ?_
  have q5 : W2.heap[w1.heap.size]? = some (.cells #[.slice C1 d.cls.length j1, .slice C2 d.next.length j2, .slice C3 d.marks.length j3] 42 (0, 0)) := by rw [← hW2]; exact World.alloc_heap_new w1 _
  have hE2 : Below w1.heap.size w1 W2 := by rw [← hW2]; exact (Below.refl _ _).alloc (Nat.le_refl _) _
  have hz1 : W0.heap.size ≤ w1.heap.size := hB1.size
  clear hW2
  have hB2 : Below w.heap.size w W2 := (hE0.below.trans (hB1.mono hE0.size)).trans (hE2.mono (by omega))
  have q3 := (hE2.block _ (by omega)).trans ((hB1.block _ (by omega)).trans q1)
  obtain ⟨c0, c1, c2⟩ := cells3 q5
  obtain ⟨d0, d1, d2⟩ := cells3 q3
  have hR := hO.reads.below hE2
  have cc1 := c_eqRef C1 B1 j1 m1 d.cls x.cls _ _ W2 hR.t1 (S_below u1 hB2) hb1
  have cc2 := fun W' (hW' : Below W2.heap.size W2 W') => c_eqRows C2 B2 j2 m2 d.next x.next _ _ W' (S_below hR.t2 hW') (S_below u2 (hB2.trans (hW'.mono hB2.size))) hb2 HS.out.b4
  have cc3 := fun W' (hW' : Below W2.heap.size W2 W') => c_eqRows C3 B3 j3 m3 d.marks x.marks _ _ W' (S_below hR.t3 hW') (S_below u3 (hB2.trans (hW'.mono hB2.size))) hb3 HS.out.b5
  have hs : ∀ b1 b2 b3, decide (d.cls = x.cls) = b1 → decide (d.next = x.next) = b2 → decide (d.marks = x.marks) = b3 → sameD d x = (b1 && (b2 && b3)) := fun _ _ _ h1 h2 h3 => by unfold sameD; rw [h1, h2, h3]
  have HX := Lib.hid hs
  clear hth hO hR q1 q3 q5 b0 b1 b2 hs s1 s2 s3 u1 u2 u3 hE0 hB1 hE2 hz0 hz1 hb1 hb2 hb3
  generalize e1 : decide (d.cls = x.cls) = y1 at cc1
  generalize e2 : decide (d.next = x.next) = y2 at cc2
  generalize e3 : decide (d.marks = x.marks) = y3 at cc3
  have HE := Lib.hid (HX.out _ _ _ e1 e2 e3)
  clear HX e1 e2 e3
  have HB2 := Lib.hid hB2
  cases y1
  · go_wp2_with (go_at_call 38; refine cc1.mono ?_; rintro e w5 ⟨rfl, q, rfl⟩)
    go_ret
    exact ⟨by rw [HE.out]; rfl, Below.drewN' HB2.out q⟩
  · cases y2
    · go_wp2_with (first
        | (go_at_call 38; refine cc1.mono ?_; rintro e w5 ⟨rfl, q, rfl⟩)
        | (go_at_call 39; refine (cc2 _ (Below.drewN' (Below.refl _ _) _)).mono ?_; rintro e w6 ⟨rfl, q2, rfl⟩))
      go_ret
      exact ⟨by rw [HE.out]; rfl, Below.drewN' HB2.out _⟩
    · go_wp2_with (first
        | (go_at_call 38; refine cc1.mono ?_; rintro e w5 ⟨rfl, q, rfl⟩)
        | (go_at_call 39; (with_reducible refine (cc2 _ (Below.drewN' (Below.refl _ _) _)).mono ?_); rintro e w6 ⟨rfl, q2, rfl⟩)
        | (go_at_call 39; (with_reducible refine (cc3 _ (Below.drewN' (Below.refl _ _) _)).mono ?_); rintro e w7 ⟨rfl, q3, rfl⟩))
      go_ret
      exact ⟨by rw [HE.out]; cases y3 <;> rfl, Below.drewN' HB2.out _⟩
theorem c_same (h k : DA) (d x : Dfa) (F G : Nat → Prop) (w : World) (hR : DfaR w F h d) (hs : DfaS d) (hT : DfaT w G k x) :
    Calls Tryz.prog 16 #[dfaV h d, dfaV k x] w fun e w' => e = .returned (.bool (sameD d x)) ∧ Below w.heap.size w w' :=
  c_same0 h.A1 h.A2 h.A3 k.A1 k.A2 k.A3 h.c1 h.c2 h.c3 k.c1 k.c2 k.c3 d x F G w hR.s1 hR.s2 hR.s3 hs hT.t1 hT.t2 hT.t3
end Go.Proofs
end

section
set_option linter.unusedVariables false
set_option linter.unusedSimpArgs false
namespace Rp
open Go Go.RowKit Go.Proofs
/-- Three that may come up. -/
theorem wpAnyT_three {P : Program} {ops : Array Oper} {Q : Exit → Act → World → Prop} {md : Region.Mode} {S : World → Prop} {L : List Nat} {i j k : Nat} {oi oj ok : Oper} {fuel : Nat} {listed : Array Bool} {a : Act} {w : World} (hi : ops.toList[i]? = some oi) (hj : ops.toList[j]? = some oj) (hk : ops.toList[k]? = some ok) (hr : Region.ready md ops listed = [i, j, k])
    (hwi : Region.wanted oi (yielded ops a.tmps) = true) (hwj : Region.wanted oj (yielded ops a.tmps) = true) (hwk : Region.wanted ok (yielded ops a.tmps) = true)
    (h1 : ∀ K : Act → World → Prop, (∀ a' w', (needT md ops L i = true → S w → S w') → wpAnyT P md ops Q S L fuel (listed.setIfInBounds i true) a' w' → K a' w') → Oper.wp P oi a w K Q)
    (h2 : ∀ K : Act → World → Prop, (∀ a' w', (needT md ops L j = true → S w → S w') → wpAnyT P md ops Q S L fuel (listed.setIfInBounds j true) a' w' → K a' w') → Oper.wp P oj a w K Q)
    (h3 : ∀ K : Act → World → Prop, (∀ a' w', (needT md ops L k = true → S w → S w') → wpAnyT P md ops Q S L fuel (listed.setIfInBounds k true) a' w' → K a' w') → Oper.wp P ok a w K Q) : wpAnyT P md ops Q S L (fuel + 1) listed a w := by
  have hi' : ops[i]? = some oi := by rw [← hi]; simp
  have hj' : ops[j]? = some oj := by rw [← hj]; simp
  have hk' : ops[k]? = some ok := by rw [← hk]; simp
  refine ⟨fun h0 => (by rw [hr] at h0; cases h0), fun n hn => ?_⟩
  rw [hr] at hn
  rcases List.mem_cons.1 hn with rfl | hn
  · unfold wpOp
    simp only [hi', hwi, if_true]
    exact .inl (h1 _ fun a' w' h1 h2 => ⟨h1, h2⟩)
  · rcases List.mem_cons.1 hn with rfl | hn
    · unfold wpOp
      simp only [hj', hwj, if_true]
      exact .inl (h2 _ fun a' w' h1 h2 => ⟨h1, h2⟩)
    · obtain rfl : n = k := by simpa using hn
      unfold wpOp
      simp only [hk', hwk, if_true]
      exact .inl (h3 _ fun a' w' h1 h2 => ⟨h1, h2⟩)
/-- An automaton of one's own, whatever its sets are told by. -/
structure DfaG (K1 : Kd BSet) (e1 e2 : TypeId) (w : World) (base : Nat) (F : Nat → Prop) (h : DA) (d : Dfa) : Prop where
  o1 : OwnS K1 e1 w base F (.slice h.A1 d.cls.length h.c1) d.cls
  o2 : OwnS KintF e2 w base F (.slice h.A2 d.next.length h.c2) d.next
  o3 : OwnS KintF e2 w base F (.slice h.A3 d.marks.length h.c3) d.marks
section
variable {K1 : Kd BSet} {e1 e2 : TypeId} {w w' : World} {base base' : Nat} {F G : Nat → Prop} {h : DA} {d : Dfa}
theorem DfaG.step (o : DfaG K1 e1 e2 w base F h d) (hm : ∀ b, F b → b < w.heap.size → w'.heap[b]? = w.heap[b]?) : DfaG K1 e1 e2 w' base F h d := ⟨o.o1.step hm, o.o2.step hm, o.o3.step hm⟩
theorem DfaG.below (o : DfaG K1 e1 e2 w base F h d) (hb : Below w.heap.size w w') : DfaG K1 e1 e2 w' base F h d := o.step fun b _ hl => hb.block b hl
theorem DfaG.mono (o : DfaG K1 e1 e2 w base F h d) (hm : ∀ b, F b → G b) : DfaG K1 e1 e2 w base G h d := ⟨o.o1.mono hm, o.o2.mono hm, o.o3.mono hm⟩
theorem DfaG.lower (o : DfaG K1 e1 e2 w base F h d) (hb : base' ≤ base) : DfaG K1 e1 e2 w base' F h d := ⟨o.o1.lower hb, o.o2.lower hb, o.o3.lower hb⟩
theorem DfaG.bound (o : DfaG K1 e1 e2 w base F h d) : DfaG K1 e1 e2 w base (fun b => F b ∧ b < w.heap.size) h d := ⟨o.o1.bound, o.o2.bound, o.o3.bound⟩
/-- Both are laid. -/
theorem two_put {y W0 : World} {B g9 g10 : Nat} {T : TypeId} {h1 h2 : DA} {a b : Dfa} {F1 F2 : Nat → Prop} {z0 z1 z2 x0 x1 x2 : Value} (q9 : y.heap[g9]? = some (.cells #[z0, z1, z2] T (0, 0))) (q10 : y.heap[g10]? = some (.cells #[x0, x1, x2] T (0, 0))) (hne : g9 ≠ g10)
    (o1 : DfaG K1 e1 e2 y B F1 h1 a) (o2 : DfaG K1 e1 e2 y B F2 h2 b) (n1 : ∀ k, F1 k → k ≠ g9 ∧ k ≠ g10 ∧ B ≤ k) (n2 : ∀ k, F2 k → k ≠ g9 ∧ k ≠ g10 ∧ B ≤ k) (hB : Below B W0 y) (l9 : B ≤ g9) (l10 : B ≤ g10)
    (W : World) (hW : W = (((((y.setCell ⟨g9, 0, none⟩ (.slice h1.A1 a.cls.length h1.c1)).setCell ⟨g9, 1, none⟩ (.slice h1.A2 a.next.length h1.c2)).setCell ⟨g9, 2, none⟩ (.slice h1.A3 a.marks.length h1.c3)).setCell ⟨g10, 0, none⟩ (.slice h2.A1 b.cls.length h2.c1)).setCell ⟨g10, 1, none⟩ (.slice h2.A2 b.next.length h2.c2)).setCell ⟨g10, 2, none⟩ (.slice h2.A3 b.marks.length h2.c3)) :
    W.heap[g9]? = some (.cells (dfaC h1 a) T (0, 0)) ∧ W.heap[g10]? = some (.cells (dfaC h2 b) T (0, 0)) ∧ DfaG K1 e1 e2 W B (fun k => B ≤ k) h1 a ∧ DfaG K1 e1 e2 W B (fun k => B ≤ k) h2 b ∧ Below B W0 W := by
  have hoth : ∀ j, j ≠ g9 → j ≠ g10 → W.heap[j]? = y.heap[j]? := fun j h9 h10 => by
    rw [hW]
    iterate 3 rw [Below.heap_setCell _ _ _ j (by simpa using h10)]
    iterate 3 rw [Below.heap_setCell _ _ _ j (by simpa using h9)]
  refine ⟨?_, ?_, ?_, ?_, ?_⟩
  · rw [hW]
    iterate 3 rw [Below.heap_setCell _ _ _ g9 (by simpa using hne)]
    have k1 := setCell_heap y g9 0 _ _ _ (.slice h1.A1 a.cls.length h1.c1) q9
    have k2 := setCell_heap _ g9 1 _ _ _ (.slice h1.A2 a.next.length h1.c2) k1
    have k3 := setCell_heap _ g9 2 _ _ _ (.slice h1.A3 a.marks.length h1.c3) k2
    simpa using k3
  · rw [hW]
    have k0 : (((y.setCell ⟨g9, 0, none⟩ (.slice h1.A1 a.cls.length h1.c1)).setCell ⟨g9, 1, none⟩ (.slice h1.A2 a.next.length h1.c2)).setCell ⟨g9, 2, none⟩ (.slice h1.A3 a.marks.length h1.c3)).heap[g10]? = some (.cells #[x0, x1, x2] T (0, 0)) := by
      iterate 3 rw [Below.heap_setCell _ _ _ g10 (by simpa using fun e => hne e.symm)]
      exact q10
    have k1 := setCell_heap _ g10 0 _ _ _ (.slice h2.A1 b.cls.length h2.c1) k0
    have k2 := setCell_heap _ g10 1 _ _ _ (.slice h2.A2 b.next.length h2.c2) k1
    have k3 := setCell_heap _ g10 2 _ _ _ (.slice h2.A3 b.marks.length h2.c3) k2
    simpa using k3
  · exact (o1.step fun k hk _ => hoth k (n1 k hk).1 (n1 k hk).2.1).mono fun k hk => (n1 k hk).2.2
  · exact (o2.step fun k hk _ => hoth k (n2 k hk).1 (n2 k hk).2.1).mono fun k hk => (n2 k hk).2.2
  · rw [hW]
    exact (((((hB.setCell (p := ⟨g9, 0, none⟩) l9 _).setCell (p := ⟨g9, 1, none⟩) l9 _).setCell (p := ⟨g9, 2, none⟩) l9 _).setCell (p := ⟨g10, 0, none⟩) l10 _).setCell (p := ⟨g10, 1, none⟩) l10 _).setCell (p := ⟨g10, 2, none⟩) l10 _
end
theorem DfaO.g {w : World} {base : Nat} {h : DA} {d : Dfa} (o : DfaO w base h d) : DfaG Kset 33 36 w base (fun k => base ≤ k) h d := ⟨o.o1, o.o2, o.o3⟩
theorem DfaG.o {w : World} {base : Nat} {h : DA} {d : Dfa} (o : DfaG Kset 33 36 w base (fun k => base ≤ k) h d) : DfaO w base h d := ⟨o.o1, o.o2, o.o3⟩
theorem DfaW.g {w : World} {base : Nat} {h : DA} {d : Dfa} (o : DfaW w base h d) : DfaG Kref 75 36 w base (fun k => base ≤ k) h d := ⟨o.o1, o.o2, o.o3⟩
theorem DfaG.w {w : World} {base : Nat} {h : DA} {d : Dfa} (o : DfaG Kref 75 36 w base (fun k => base ≤ k) h d) : DfaW w base h d := ⟨o.o1, o.o2, o.o3⟩
/-- What makes has laid: two automata, and those of the reference. -/
structure MkS (W : World) (g9 g10 g11 g12 : Nat) (h1 h2 h3 h4 : DA) (a b : Dfa) : Prop where
  r9 : W.heap[g9]? = some (.cells (dfaC h1 a) 25 (0, 0))
  r10 : W.heap[g10]? = some (.cells (dfaC h2 b) 25 (0, 0))
  r11 : W.heap[g11]? = some (.cells (dfaC h3 a) 42 (0, 0))
  r12 : W.heap[g12]? = some (.cells (dfaC h4 b) 42 (0, 0))
  p : DfaR W (fun _ => True) h1 a
  q : DfaR W (fun _ => True) h2 b
  x : DfaT W (fun _ => True) h3 a
  y : DfaT W (fun _ => True) h4 b
theorem MkS.below {W W' : World} {g9 g10 g11 g12 : Nat} {h1 h2 h3 h4 : DA} {a b : Dfa} (m : MkS W g9 g10 g11 g12 h1 h2 h3 h4 a b) (hB : Below W.heap.size W W') : MkS W' g9 g10 g11 g12 h1 h2 h3 h4 a b :=
  ⟨(hB.block _ (Array.getElem?_eq_some_iff.1 m.r9).1).trans m.r9, (hB.block _ (Array.getElem?_eq_some_iff.1 m.r10).1).trans m.r10, (hB.block _ (Array.getElem?_eq_some_iff.1 m.r11).1).trans m.r11, (hB.block _ (Array.getElem?_eq_some_iff.1 m.r12).1).trans m.r12, m.p.below hB, m.q.below hB, m.x.below hB, m.y.below hB⟩
theorem ofB_none {a b : Dfa} {op : Nat} {fuel : Int} (h : ¬ (ofB a b op fuel).2 = 0) : (ofB a b op fuel).1 = noDfa := by
  unfold ofB at h ⊢
  split
  · rfl
  · split
    · rfl
    · split
      · rfl
      · split
        · rfl
        · rename_i h1 h2 h3 h4
          rw [if_neg h1, if_neg h2, if_neg h3, if_neg h4] at h
          split
          · rfl
          · rename_i d hd
            rw [hd] at h
            exact absurd rfl h
theorem ofB_sizes {a b : Dfa} {op : Nat} {fuel : Int} : DfaS (ofB a b op fuel).1 := by
  by_cases h : (ofB a b op fuel).2 = 0
  · exact right_sizes (ofB_right h)
  · have e : (ofB a b op fuel).1 = noDfa := ofB_none h
    rw [e]
    exact ⟨by simp [noDfa], by simp [noDfa], by simp [noDfa], fun l hl => by simp [noDfa] at hl, fun l hl => by simp [noDfa] at hl⟩
theorem xor255 (x : UInt8) : bits .xor .u8 (x.toNat : Int) 255 = ((UInt8.ofNat (255 - x.toNat)).toNat : Int) := by
  have h : ∀ n : Fin 256, bits .xor .u8 ((n.val : Nat) : Int) 255 = ((UInt8.ofNat (255 - n.val)).toNat : Int) := by decide +kernel
  exact h ⟨x.toNat, x.toNat_lt⟩
end Rp
end

section
set_option linter.unusedVariables false
set_option linter.unusedSimpArgs false
namespace Rp
open Go Go.RowKit Go.Proofs
/-- The set of some letters. -/
def letS (s : List UInt8) : BSet := s.foldl (fun acc c => acc ||| (1#256 <<< c.toNat)) 0#256
theorem letS_next (s : List UInt8) (k : Nat) (hk : k < s.length) : letS (s.take (k + 1)) = letS (s.take k) ||| (1#256 <<< s[k].toNat) := by
  unfold letS
  rw [List.take_succ_eq_append_getElem hk, List.foldl_append]; rfl
theorem bits_shl (c : Nat) (h : c < 64) : IntKind.u64.wrap ((2 : Int) ^ c) = ((1#64 <<< c).toNat : Int) := by
  rw [IntKind.wrap_u64]
  have h1 : (1#64 <<< c).toNat = 2 ^ c := by
    rw [BitVec.toNat_shiftLeft, Nat.shiftLeft_eq]
    have : 2 ^ c < 2 ^ 64 := Nat.pow_lt_pow_right (by omega) h
    simp; simpa using this
  rw [h1]
  have h2 : 2 ^ c < 2 ^ 64 := Nat.pow_lt_pow_right (by omega) h
  have h3 : ((2 : Int) ^ c) = ((2 ^ c : Nat) : Int) := by simp
  rw [h3]; omega
/-- A letter put into a set, word by word. -/
theorem setC_put (s : BSet) (c : Nat) (hc : c < 256) : (setC s).setIfInBounds (c / 64) (u64 (wd s (c / 64) ||| (1#64 <<< (c % 64)))) = setC (s ||| (1#256 <<< c)) := by
  have hq : c / 64 = 0 ∨ c / 64 = 1 ∨ c / 64 = 2 ∨ c / 64 = 3 := by omega
  have h := fun i hi => wd_set_bit s c i hc hi
  rcases hq with e | e | e | e <;> rw [e] at h ⊢ <;> simp [setC, h 0 (by omega), h 1 (by omega), h 2 (by omega), h 3 (by omega)]
theorem bits_notM (x : BitVec 64) : bits .xor .u64 IntKind.u64.max (x.toNat : Int) = ((~~~x).toNat : Int) := bits_not x
theorem set4 (wr : World) (b : Nat) (t : TypeId) (z0 z1 z2 z3 x0 x1 x2 x3 : Value) (h0 : wr.cell? ⟨b, 0, none⟩ = some z0) (h1 : wr.cell? ⟨b, 1, none⟩ = some z1) (h2 : wr.cell? ⟨b, 2, none⟩ = some z2) (h3 : wr.cell? ⟨b, 3, none⟩ = some z3) :
    ((((wr.setCell ⟨b, 0, none⟩ x0).setCell ⟨b, 1, none⟩ x1).setCell ⟨b, 2, none⟩ x2).setCell ⟨b, 3, none⟩ x3).cell? ⟨b, 0, none⟩ = some x0 ∧ ((((wr.setCell ⟨b, 0, none⟩ x0).setCell ⟨b, 1, none⟩ x1).setCell ⟨b, 2, none⟩ x2).setCell ⟨b, 3, none⟩ x3).cell? ⟨b, 1, none⟩ = some x1 ∧ ((((wr.setCell ⟨b, 0, none⟩ x0).setCell ⟨b, 1, none⟩ x1).setCell ⟨b, 2, none⟩ x2).setCell ⟨b, 3, none⟩ x3).cell? ⟨b, 2, none⟩ = some x2 ∧ ((((wr.setCell ⟨b, 0, none⟩ x0).setCell ⟨b, 1, none⟩ x1).setCell ⟨b, 2, none⟩ x2).setCell ⟨b, 3, none⟩ x3).cell? ⟨b, 3, none⟩ = some x3 ∧
    (∀ B, B ≤ b → Below B wr ((((wr.setCell ⟨b, 0, none⟩ x0).setCell ⟨b, 1, none⟩ x1).setCell ⟨b, 2, none⟩ x2).setCell ⟨b, 3, none⟩ x3)) := by
  refine ⟨by go_simp, by go_simp, by go_simp, by go_simp, fun B hB => ((((Below.refl B wr).setCell (p := ⟨b, 0, none⟩) hB x0).setCell (p := ⟨b, 1, none⟩) hB x1).setCell (p := ⟨b, 2, none⟩) hB x2).setCell (p := ⟨b, 3, none⟩) hB x3⟩
theorem three_laid (w : World) (A B C : Obj) : ((((w.alloc A).alloc B).alloc C).drew).heap[w.heap.size]? = some A ∧ ((((w.alloc A).alloc B).alloc C).drew).heap[w.heap.size + 1]? = some B ∧ ((((w.alloc A).alloc B).alloc C).drew).heap[w.heap.size + 1 + 1]? = some C ∧
    Below w.heap.size w ((((w.alloc A).alloc B).alloc C).drew) ∧ ((((w.alloc A).alloc B).alloc C).drew).heap.size = w.heap.size + 3 := by
  refine ⟨?_, ?_, ?_, ?_, ?_⟩
  · exact (Below.heap_alloc _ C _ (by simp; omega)).trans ((Below.heap_alloc _ B _ (by simp)).trans (World.alloc_heap_new w A))
  · refine (Below.heap_alloc _ C _ (by simp)).trans ?_
    have := World.alloc_heap_new (w.alloc A) B
    rwa [World.size_alloc] at this
  · have := World.alloc_heap_new ((w.alloc A).alloc B) C
    rwa [World.size_alloc, World.size_alloc] at this
  · exact ((((Below.refl _ _).alloc (Nat.le_refl _) _).alloc (by simp) _).alloc (by simp; omega) _).drew
  · show (((w.alloc A).alloc B).alloc C).heap.size = _
    simp
theorem cell_of_obj {w : World} {b i : Nat} {cs : Array Value} {t : TypeId} {fr : Nat × Nat} {v : Value} (h : w.heap[b]? = some (.cells cs t fr)) (hv : cs[i]? = some v) : w.cell? ⟨b, i, none⟩ = some v := by
  simp [World.cell?, h, hv]
end Rp
namespace Go.Proofs
open Go.RowKit Go.Shelf Rp Go.Maps
attribute [local go_sem] Oper.semAt_some
set_option maxRecDepth 100000 in
set_option maxHeartbeats 800000 in
theorem c_letter (s : List UInt8) (w : World) (hs : s.length ≤ 1000000) :
    Calls Tryz.prog 11 #[.string ⟨s.toArray⟩] w fun e w' => e = .returned (setV (letS s)) ∧ Below w.heap.size w w' := by
  have hcv := fun W => run_bytes_of_string (P := Tryz.prog) W 9 47 5 ⟨s.toArray⟩ Tryz.underlying9 Tryz.underlying47 Tryz.underlying5
  go_enter Tryz.func11, Tryz.ntmps11
  go_wp2
  refine wp_name fun W2 hW2 => ?_
  obtain ⟨hr0, hg0, hb0, hE2, hz2⟩ := three_laid w (.cells #[.int .u64 0, .int .u64 0, .int .u64 0, .int .u64 0] 33 (0, 0)) (.cells #[.int .u64 0, .int .u64 0, .int .u64 0, .int .u64 0] 33 (0, 0)) (.cells (bytesRow ⟨s.toArray⟩ (grownCap ((w.alloc (.cells #[.int .u64 0, .int .u64 0, .int .u64 0, .int .u64 0] 33 (0, 0))).alloc (.cells #[.int .u64 0, .int .u64 0, .int .u64 0, .int .u64 0] 33 (0, 0))) s.length 0 5)) 5 ((bytesRow ⟨s.toArray⟩ (grownCap ((w.alloc (.cells #[.int .u64 0, .int .u64 0, .int .u64 0, .int .u64 0] 33 (0, 0))).alloc (.cells #[.int .u64 0, .int .u64 0, .int .u64 0, .int .u64 0] 33 (0, 0))) s.length 0 5)).size, (bytesRow ⟨s.toArray⟩ (grownCap ((w.alloc (.cells #[.int .u64 0, .int .u64 0, .int .u64 0, .int .u64 0] 33 (0, 0))).alloc (.cells #[.int .u64 0, .int .u64 0, .int .u64 0, .int .u64 0] 33 (0, 0))) s.length 0 5)).size + 1))
  rw [hW2] at hr0 hg0 hb0 hE2 hz2
  have hg0 : W2.heap[w.heap.size + 1]? = some (.cells (setC 0#256) 33 (0, 0)) := by
    rw [hg0]; simp [setC, u64, wd_zero]
  have hby : ∀ j (hj : j < s.length), W2.cell? ⟨w.heap.size + 1 + 1, j, none⟩ = some (byteV s[j]) := fun j hj => by
    refine cell_of_obj hb0 ?_
    unfold bytesRow
    rw [Array.getElem?_append_left (by simpa using hj)]
    simp [hj]
  clear hb0
  clear hW2 hcv
  generalize grownCap _ _ _ _ = cap
  go_loopg [9] (s.length + 1) (fun gk vk wr => ∃ (k : Nat), vk = .int .i64 (k : Int) ∧ k ≤ s.length ∧ gk + k = s.length + 1 ∧ wr.heap[w.heap.size + 1]? = some (.cells (setC (letS (s.take k))) 33 (0, 0)) ∧ Kp (fun j => j = w.heap.size + 1) W2 wr)
  case atStart => exact ⟨0, rfl, by omega, by omega, hg0, Kp.refl _ _⟩
  case round =>
    obtain ⟨k, rfl, hk, hgk, hg, hK⟩ := hrel
    have HG := Lib.hid hgk
    have hk0 : (0 : Int) ≤ k := by omega
    clear hgk
    by_cases hlt : k < s.length
    · have hlt' : (k : Int) < s.length := by omega
      have hc0 : wr.cell? ⟨w.heap.size + 1 + 1, k, none⟩ = some (.int .u8 ((s[k].toNat : Nat) : Int)) := hK.cell (hby k hlt) (by simp)
      have hnx := letS_next s k hlt
      have hcl : s[k].toNat < 256 := s[k].toNat_lt
      have HNX := Lib.hid hnx
      clear hnx
      generalize letS (s.take k) = acc at *
      generalize s[k].toNat = c at *
      have h64 : c / 64 < 4 := by omega
      have z0 : wr.cell? ⟨w.heap.size + 1, c / 64, none⟩ = some (.int .u64 ((wd acc (c / 64)).toNat : Int)) := by
        refine (cell_of_row wr _ (c / 64) _ _ _ hg).trans ?_
        simpa using setC_at acc c hcl
      have f0 := frozen_of_row wr (w.heap.size + 1) (c / 64) _ _ hg
      have hq0 : (0 : Int) ≤ (c : Int) / 64 := by omega
      have hq1 : (c : Int) / 64 < 4 := by omega
      have hput := setCell_heap wr (w.heap.size + 1) (c / 64) _ _ _ (u64 (wd acc (c / 64) ||| (1#64 <<< (c % 64)))) hg
      rw [setC_put acc c hcl] at hput
      have HP := Lib.hid hput
      have HK := Lib.hid hK
      clear hput hK hg hby
      go_wp2
      go_roundg (gk - 1)
      case measure => have := HG.out; omega
      case rel =>
        refine ⟨k + 1, by go_num, by omega, by have := HG.out; omega, ?_, HK.out.setCell ⟨w.heap.size + 1, _, none⟩ rfl _⟩
        rw [HNX.out, bits_shl _ (by omega), bits_or]
        exact HP.out
    · obtain rfl : k = s.length := by omega
      have hge : ¬ ((s.length : Int) < s.length) := by omega
      rw [List.take_length] at hg
      obtain ⟨c0, c1, c2, c3⟩ := cells4 hg
      obtain ⟨d0, d1, d2, d3⟩ := cells4 (hK.heap hr0 (by omega))
      have df : ∀ j, wr.frozen? ⟨w.heap.size, j, none⟩ = false := fun j => frozen_of_row wr _ j _ _ (hK.heap hr0 (by omega))
      have hBr : Below w.heap.size w wr := hE2.trans (hK.below (by omega) (fun j hj e => by omega))
      clear hK hg hr0 hby
      go_wp2
      obtain ⟨x0, x1, x2, x3, hBF⟩ := set4 wr w.heap.size 33 _ _ _ _ (u64 (wd (letS s) 0)) (u64 (wd (letS s) 1)) (u64 (wd (letS s) 2)) (u64 (wd (letS s) 3)) d0 d1 d2 d3
      refine bodyPost_ret (v := setV (letS s)) (by simp [results, Tryz.results11, go_sem, x0, x1, x2, x3, setV, setC]) rfl ⟨rfl, hBr.trans (hBF w.heap.size (Nat.le_refl _))⟩
set_option maxRecDepth 100000 in
set_option maxHeartbeats 800000 in
theorem c_others (s : List UInt8) (w : World) (hs : s.length ≤ 1000000) :
    Calls Tryz.prog 10 #[.string ⟨s.toArray⟩] w fun e w' => e = .returned (setV (~~~ letS s)) ∧ Below w.heap.size w w' := by
  go_enter Tryz.func10, Tryz.ntmps10
  have hl := fun W => c_letter s W hs
  generalize letS s = l at *
  simp only [setV, setC, u64, wd_not l 0 (by omega), wd_not l 1 (by omega), wd_not l 2 (by omega), wd_not l 3 (by omega)] at hl ⊢
  generalize wd l 0 = a0 at *
  generalize wd l 1 = a1 at *
  generalize wd l 2 = a2 at *
  generalize wd l 3 = a3 at *
  go_wp2_with (go_at_call 11; refine (hl _).mono ?_; rintro e w1 ⟨rfl, hB1⟩)
  have hr := (hB1.block w.heap.size (by simp)).trans (World.alloc_heap_new w _)
  have hBw : Below w.heap.size w w1 := ((Below.refl _ _).alloc (Nat.le_refl _) _).trans (hB1.mono (by simp))
  have hwl : w.heap.size < w1.heap.size := (Array.getElem?_eq_some_iff.1 hr).1
  obtain ⟨d0, d1, d2, d3⟩ := cells4 hr
  have df : ∀ j, w1.frozen? ⟨w.heap.size, j, none⟩ = false := fun j => frozen_of_row w1 _ j _ _ hr
  have hsg : IntKind.u64.signed = false := rfl
  have n0 := bits_notM a0
  have n1 := bits_notM a1
  have n2 := bits_notM a2
  have n3 := bits_notM a3
  clear hr hB1 hl
  refine wp_loop_rounds 5 ?_
  rw [rounds_succ]
  go_wp2
  rw [rounds_succ]
  go_wp2
  rw [rounds_succ]
  go_wp2
  rw [rounds_succ]
  go_wp2
  rw [rounds_succ]
  go_wp2
  have e : ∀ x : BitVec 64, ((~~~x).toNat : Int) = ((18446744073709551615 - x.toNat : Nat) : Int) := fun x => by rw [BitVec.toNat_not]
  rw [e a0, e a1, e a2, e a3]
  obtain ⟨x0, x1, x2, x3, hBF⟩ := set4 w1 w.heap.size 33 _ _ _ _ (.int .u64 ((18446744073709551615 - a0.toNat : Nat) : Int)) (.int .u64 ((18446744073709551615 - a1.toNat : Nat) : Int)) (.int .u64 ((18446744073709551615 - a2.toNat : Nat) : Int)) (.int .u64 ((18446744073709551615 - a3.toNat : Nat) : Int)) d0 d1 d2 d3
  have hBX := hBw.trans (hBF w.heap.size (Nat.le_refl _))
  clear hBF d0 d1 d2 d3 df n0 n1 n2 n3 e
  generalize ((((w1.setCell ⟨w.heap.size, 0, none⟩ _).setCell ⟨w.heap.size, 1, none⟩ _).setCell ⟨w.heap.size, 2, none⟩ _).setCell ⟨w.heap.size, 3, none⟩ _) = W at *
  have hBA : Below W.heap.size W (W.alloc (.cells #[.int .u64 ((18446744073709551615 - a0.toNat : Nat) : Int), .int .u64 ((18446744073709551615 - a1.toNat : Nat) : Int), .int .u64 ((18446744073709551615 - a2.toNat : Nat) : Int), .int .u64 ((18446744073709551615 - a3.toNat : Nat) : Int)] 33)) := (Below.refl _ _).alloc (Nat.le_refl _) _
  have y0 := bcellS hBA x0
  have y1 := bcellS hBA x1
  have y2 := bcellS hBA x2
  have y3 := bcellS hBA x3
  have hBY := hBX.trans (hBA.mono hBX.size)
  clear hBA x0 x1 x2 x3
  generalize W.alloc _ = W' at *
  exact bodyPost_ret (v := .agg #[.int .u64 ((18446744073709551615 - a0.toNat : Nat) : Int), .int .u64 ((18446744073709551615 - a1.toNat : Nat) : Int), .int .u64 ((18446744073709551615 - a2.toNat : Nat) : Int), .int .u64 ((18446744073709551615 - a3.toNat : Nat) : Int)]) (by simp [results, Tryz.results10, go_sem, y0, y1, y2, y3]) rfl ⟨rfl, hBY⟩
end Go.Proofs
end

section
set_option linter.unusedVariables false
set_option linter.unusedSimpArgs false
namespace Rp
open Go Go.RowKit Go.Proofs
theorem lit_ints (w : World) (e : TypeId) (xs : List Int) (base : Nat) (F : Nat → Prop) (hx : ∀ x ∈ xs, inI64 x) (hn : xs.length ≤ 9223372036854775807) (hb : base ≤ w.heap.size) (hF : F w.heap.size) :
    OwnS Kint e (w.alloc (.cells (xs.map (Value.int .i64)).toArray e)) base F (.slice (some ⟨w.heap.size, 0, none⟩) xs.length xs.length) xs := by
  refine scal_own.2 ⟨fun k hk => by simp [Value.ownBlock] at hk; subst hk; exact hF, ?_, hx⟩
  refine ⟨by simp, .inr ⟨w.heap.size, xs.length, (xs.map (Value.int .i64)).toArray, by simp, hb, World.alloc_heap_new w _, by simp, by simpa [maxLen] using hn, by simp, by rw [List.toList_toArray]; exact List.take_of_length_le (by simp)⟩⟩
theorem lit_two_sets (w : World) (e : TypeId) (s0 s1 : BSet) (base : Nat) (F : Nat → Prop) (hb : base ≤ w.heap.size) (hF : F w.heap.size) :
    OwnS Kset e (w.alloc (.cells #[u64 (wd s0 0), u64 (wd s0 1), u64 (wd s0 2), u64 (wd s0 3), u64 (wd s1 0), u64 (wd s1 1), u64 (wd s1 2), u64 (wd s1 3)] e)) base F (.slice (some ⟨w.heap.size, 0, none⟩) 2 2) [s0, s1] := by
  refine ⟨fun k hk => by simp [Value.ownBlock] at hk; subst hk; exact hF, [u64 (wd s0 0), u64 (wd s0 1), u64 (wd s0 2), u64 (wd s0 3), u64 (wd s1 0), u64 (wd s1 1), u64 (wd s1 2), u64 (wd s1 3)], ⟨rfl, .inr ⟨w.heap.size, 2, _, rfl, hb, World.alloc_heap_new w _, by simp, by simp [maxLen], rfl, rfl⟩⟩, ?_⟩
  exact ⟨(setC s0).toList, (setC s1).toList, rfl, rfl, rfl, (setC s1).toList, [], rfl, rfl, rfl, rfl⟩
theorem S_nilrow {w : World} {F : Nat → Prop} {b : Nat} {r : Option Nat} (h : KintF.S w F (some ⟨b, 0, none⟩) [[]]) (hne : some b ≠ r) : KintF.S w (fun k => F k ∧ some k ≠ r) (some ⟨b, 0, none⟩) [[]] := fun hx => by
  obtain ⟨b', off, inner, e, hF, hlt, hr, hc⟩ := h hx
  injection e with e; injection e with e1 e2
  subst e1
  refine ⟨b, off, inner, by rw [e2], ⟨hF, hne⟩, hlt, hr.imp fun q c hq hR => ?_, hc⟩
  obtain rfl : q = [] := by simpa using hq
  obtain ⟨A, cap, ec, h1, h2, h3⟩ := hR
  exact ⟨A, cap, ec, h1, h2, fun hx => absurd rfl hx⟩
structure RdS (T es : TypeId) (bo : Nat) (vC : Value) (W5 : World) (nx mk : List (List Int)) (vN vM : Value) (w : World) : Prop where
  kp : Kp (fun k => k = bo) W5 w
  on : OwnS KintF es w W5.heap.size (fun k => W5.heap.size ≤ k ∧ some k ≠ vM.ownBlock) vN nx
  om : OwnS KintF es w W5.heap.size (fun k => W5.heap.size ≤ k ∧ some k ≠ vN.ownBlock) vM mk
  hb : w.heap[bo]? = some (.cells #[vC, vN, vM] T (0, 0))
  hl : bo < W5.heap.size
/-- One row has been appended to, and is not yet laid down. -/
structure RdH (T es : TypeId) (bo : Nat) (vC : Value) (W5 : World) (nx mk : List (List Int)) (vN0 vN vM : Value) (w : World) : Prop where
  kp : Kp (fun k => k = bo) W5 w
  on : OwnS KintF es w W5.heap.size (fun k => W5.heap.size ≤ k ∧ some k ≠ vM.ownBlock) vN nx
  om : OwnS KintF es w W5.heap.size (fun k => W5.heap.size ≤ k ∧ some k ≠ vN.ownBlock) vM mk
  hb : w.heap[bo]? = some (.cells #[vC, vN0, vM] T (0, 0))
  hl : bo < W5.heap.size
section
variable {T es : TypeId} {bo : Nat} {vC : Value} {W5 w w1 : World} {nx mk nx' mk' : List (List Int)} {vN vM vN0 vN' vM' : Value}
theorem RdS.ext (h : RdS T es bo vC W5 nx mk vN vM w) (hb : Below w.heap.size w w1) : RdS T es bo vC W5 nx mk vN vM w1 :=
  ⟨h.kp.trans (.of_below hb), h.on.below hb, h.om.below hb, (hb.block _ (Array.getElem?_eq_some_iff.1 h.hb).1).trans h.hb, h.hl⟩
theorem RdH.ext (h : RdH T es bo vC W5 nx mk vN0 vN vM w) (hb : Below w.heap.size w w1) : RdH T es bo vC W5 nx mk vN0 vN vM w1 :=
  ⟨h.kp.trans (.of_below hb), h.on.below hb, h.om.below hb, (hb.block _ (Array.getElem?_eq_some_iff.1 h.hb).1).trans h.hb, h.hl⟩
theorem RdS.appN (h : RdS T es bo vC W5 nx mk vN vM w) (hO : OwnS KintF es w1 W5.heap.size (fun k => W5.heap.size ≤ k ∧ some k ≠ vM.ownBlock) vN' nx') (hM : Mov w w1 vN.ownBlock vN'.ownBlock) : RdH T es bo vC W5 nx' mk vN vN' vM w1 :=
  ⟨h.kp.mov_after hM fun k hk => .inr (h.on.lt k hk).1, hO, OwnS.mono (h.om.away hM fun k hk => hk.2) fun k hk => ⟨hk.1.1, hk.2⟩, hM.heap h.hb fun e => by have := (h.on.lt _ e.symm).1; have := h.hl; omega, h.hl⟩
theorem RdH.appM (h : RdH T es bo vC W5 nx mk vN0 vN vM w) (hO : OwnS KintF es w1 W5.heap.size (fun k => W5.heap.size ≤ k ∧ some k ≠ vN.ownBlock) vM' mk') (hM : Mov w w1 vM.ownBlock vM'.ownBlock) :
    RdS T es bo vC W5 nx mk' vN vM' ((w1.setCell ⟨bo, 1, none⟩ vN).setCell ⟨bo, 2, none⟩ vM') := by
  have hn : ∀ k, W5.heap.size ≤ k → ((w1.setCell ⟨bo, 1, none⟩ vN).setCell ⟨bo, 2, none⟩ vM').heap[k]? = w1.heap[k]? := fun k hk => by
    have := h.hl
    rw [Below.heap_setCell _ _ _ k (by show k ≠ bo; omega), Below.heap_setCell _ _ _ k (by show k ≠ bo; omega)]
  have hb1 : w1.heap[bo]? = some (.cells #[vC, vN0, vM] T (0, 0)) := hM.heap h.hb fun e => by have := (h.om.lt _ e.symm).1; have := h.hl; omega
  refine ⟨((h.kp.mov_after hM fun k hk => .inr (h.om.lt k hk).1).setCell ⟨bo, 1, none⟩ rfl _).setCell ⟨bo, 2, none⟩ rfl _, ?_, hO.step fun k hk _ => hn k hk.1, ?_, h.hl⟩
  · exact (OwnS.mono (h.on.away hM fun k hk => hk.2) fun k hk => ⟨hk.1.1, hk.2⟩).step fun k hk _ => hn k hk.1
  · have k1 := setCell_heap w1 bo 1 _ _ _ vN hb1
    have k2 := setCell_heap _ bo 2 _ _ _ vM' k1
    simpa using k2
theorem RdH.cells (h : RdH T es bo vC W5 nx mk vN0 vN vM w) (hM : Mov w w1 vM.ownBlock vM'.ownBlock) : w1.heap[bo]? = some (.cells #[vC, vN0, vM] T (0, 0)) := hM.heap h.hb fun e => by have := (h.om.lt _ e.symm).1; have := h.hl; omega
end
theorem RdS.zero {T es ei : TypeId} {bo gM cM : Nat} {vC : Value} {W5 y : World} {nx mk : List (List Int)} {vN : Value} (h : RdS T es bo vC W5 nx ([] :: mk) vN (.slice (some ⟨gM, 0, none⟩) (mk.length + 1) cM) y) :
    RdS T es bo vC W5 nx ([0] :: mk) vN (.slice (some ⟨gM, 0, none⟩) (mk.length + 1) cM) ((y.alloc (.cells #[.int .i64 0] ei)).setCell ⟨gM, 0, none⟩ (.slice (some ⟨y.heap.size, 0, none⟩) 1 1)) := by
  have hz := h.kp.size
  have hgM := h.om.lt gM rfl
  have hbo := h.hl
  have hvN : ∀ k, vN.ownBlock = some k → k < y.heap.size ∧ k ≠ gM := fun k hk => ⟨(h.on.lt k hk).2, fun e => (h.on.1 k hk).2 (by rw [e]; rfl)⟩
  have hoth : ∀ k, k ≠ gM → k < y.heap.size → ((y.alloc (.cells #[.int .i64 0] ei)).setCell ⟨gM, 0, none⟩ (.slice (some ⟨y.heap.size, 0, none⟩) 1 1)).heap[k]? = y.heap[k]? := fun k hk hl => by
    rw [Below.heap_setCell _ _ _ k (by simpa using hk)]
    exact Below.heap_alloc _ _ _ hl
  have hx0 : ∀ x ∈ [(0 : Int)], inI64 x := fun x hx => by
    obtain rfl : x = 0 := by simpa using hx
    constructor <;> omega
  have hr := (lit_ints y ei [(0 : Int)] y.heap.size (fun k => y.heap.size ≤ k) hx0 (by simp) (Nat.le_refl _) (Nat.le_refl _)).sliceF
  refine ⟨((h.kp.alloc _).mov_after (Mov.own_set (y.alloc (.cells #[.int .i64 0] ei)) gM 0 _) fun k hk => .inr (by injection hk with hk; omega)), ?_, ?_, ?_, h.hl⟩
  · exact h.on.step fun k hk hl => hoth k (fun e => hk.2 (by rw [e]; rfl)) hl
  · have := OwnS.set1 (d := KintF) rfl (i := 0) (x := [(0 : Int)]) (u := .slice (some ⟨y.heap.size, 0, none⟩) 1 1) (h.om.alloc (.cells #[.int .i64 0] ei)) (KintF.mono (fun b hb => ⟨⟨by omega, fun e => by have := (hvN b e.symm).1; omega⟩, fun e => by injection e with e; omega⟩) hr)
    simpa using this
  · rw [hoth bo (by omega) (by omega)]; exact h.hb
/-- The automaton of 'as many letters a as are a multiple of n'. -/
def rdN (n k : Nat) : List (List Int) := (List.range k).map fun s => [(n : Int), ((s + 1) % n : Nat)]
def rdD (n : Nat) : Dfa := ⟨[~~~ letS [97], letS [97]], rdN n n ++ [[(n : Int), (n : Int)]], [0] :: List.replicate n []⟩
theorem rdN_succ (n k : Nat) : rdN n (k + 1) = rdN n k ++ [[(n : Int), ((k + 1) % n : Nat)]] := by simp [rdN, List.range_succ]
end Rp
end
