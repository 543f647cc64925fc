/- The classes of two automata, and what leads there. -/
import Derived.Test.YtmfijgigfianeaaGreatGrCopy
import Derived.Laws.EntriesVeiled
set_option linter.unusedVariables false
set_option linter.unusedSimpArgs false
namespace Rp
open Go Go.RowKit Go.Proofs
/-- A kind whose elements lead nowhere. -/
def Flat {α : Type} (d : Kd α) : Prop := ∀ (w w' : World) (G G' : Nat → Prop) q c, d.R w G q c → d.R w' G' q c
theorem flatSet : Flat Kset := fun _ _ _ _ _ _ h => h
theorem flatInt : Flat Kint := fun _ _ _ _ _ _ h => h
theorem OwnS.mov {α : Type} {d : Kd α} (hd : Flat d) {e : TypeId} {w w' : World} {base : Nat} {F : Nat → Prop} {v : Value} {xs : List α} {r r' : Option Nat} (h : OwnS d e w base F v xs) (hm : Mov w w' r r') (hr : v.ownBlock = none ∨ v.ownBlock ≠ r) : OwnS d e w' base F v xs := by
  obtain ⟨hF, inner, ho, hi⟩ := h
  exact ⟨hF, inner, hm.own ho hr, hi.imp fun q c _ h => hd _ _ _ _ q c h⟩
theorem box_S {α : Type} (d : Kd α) (W : World) (e : TypeId) (cs : List Value) (x : α) (G : Nat → Prop) (hp : d.R (W.alloc (.cells cs.toArray e)) G x cs) (hG : G W.heap.size) : d.S (W.alloc (.cells cs.toArray e)) G (some ⟨W.heap.size, 0, none⟩) [x] := fun _ =>
  ⟨W.heap.size, 0, cs, rfl, hG, by simp, Reps.one hp (d.len hp), fun j u hu => by
    rw [Nat.zero_add]
    exact (cell_of_row _ _ j _ _ _ (World.alloc_heap_new W (.cells cs.toArray e))).trans (by simpa using hu)⟩
theorem set10 (wr : World) (b : Nat) (t : TypeId) (z0 z1 z2 z3 z4 z5 z6 z7 z8 z9 x0 x1 x2 x3 x4 x5 x6 x7 x8 x9 : Value) (h : wr.heap[b]? = some (.cells #[z0, z1, z2, z3, z4, z5, z6, z7, z8, z9] t (0, 0))) :
    ((((((((((wr.setCell ⟨b, 0, none⟩ x0).setCell ⟨b, 1, none⟩ x1).setCell ⟨b, 2, none⟩ x2).setCell ⟨b, 3, none⟩ x3).setCell ⟨b, 4, none⟩ x4).setCell ⟨b, 5, none⟩ x5).setCell ⟨b, 6, none⟩ x6).setCell ⟨b, 7, none⟩ x7).setCell ⟨b, 8, none⟩ x8).setCell ⟨b, 9, none⟩ x9).heap[b]? = some (.cells #[x0, x1, x2, x3, x4, x5, x6, x7, x8, x9] t (0, 0)) := by
  have h0 := setCell_heap wr b 0 _ t (0, 0) x0 h
  have h1 := setCell_heap _ b 1 _ t (0, 0) x1 h0
  have h2 := setCell_heap _ b 2 _ t (0, 0) x2 h1
  have h3 := setCell_heap _ b 3 _ t (0, 0) x3 h2
  have h4 := setCell_heap _ b 4 _ t (0, 0) x4 h3
  have h5 := setCell_heap _ b 5 _ t (0, 0) x5 h4
  have h6 := setCell_heap _ b 6 _ t (0, 0) x6 h5
  have h7 := setCell_heap _ b 7 _ t (0, 0) x7 h6
  have h8 := setCell_heap _ b 8 _ t (0, 0) x8 h7
  have h9 := setCell_heap _ b 9 _ t (0, 0) x9 h8
  simpa using h9
theorem set10_rest (wr : World) (b : Nat) (x0 x1 x2 x3 x4 x5 x6 x7 x8 x9 : Value) : (∀ B, B ≤ b → Below B wr ((((((((((wr.setCell ⟨b, 0, none⟩ x0).setCell ⟨b, 1, none⟩ x1).setCell ⟨b, 2, none⟩ x2).setCell ⟨b, 3, none⟩ x3).setCell ⟨b, 4, none⟩ x4).setCell ⟨b, 5, none⟩ x5).setCell ⟨b, 6, none⟩ x6).setCell ⟨b, 7, none⟩ x7).setCell ⟨b, 8, none⟩ x8).setCell ⟨b, 9, none⟩ x9)) ∧ (∀ j, j ≠ b → ((((((((((wr.setCell ⟨b, 0, none⟩ x0).setCell ⟨b, 1, none⟩ x1).setCell ⟨b, 2, none⟩ x2).setCell ⟨b, 3, none⟩ x3).setCell ⟨b, 4, none⟩ x4).setCell ⟨b, 5, none⟩ x5).setCell ⟨b, 6, none⟩ x6).setCell ⟨b, 7, none⟩ x7).setCell ⟨b, 8, none⟩ x8).setCell ⟨b, 9, none⟩ x9).heap[j]? = wr.heap[j]?) := by
  refine ⟨fun B hB => ((((((((((Below.refl B wr).setCell (p := ⟨b, 0, none⟩) hB x0).setCell (p := ⟨b, 1, none⟩) hB x1).setCell (p := ⟨b, 2, none⟩) hB x2).setCell (p := ⟨b, 3, none⟩) hB x3).setCell (p := ⟨b, 4, none⟩) hB x4).setCell (p := ⟨b, 5, none⟩) hB x5).setCell (p := ⟨b, 6, none⟩) hB x6).setCell (p := ⟨b, 7, none⟩) hB x7).setCell (p := ⟨b, 8, none⟩) hB x8).setCell (p := ⟨b, 9, none⟩) hB x9, fun j hj => ?_⟩
  iterate 10 rw [Below.heap_setCell _ _ _ j (by simpa using hj)]
theorem Mov.apart {w w' : World} {r r' q : Option Nat} (h : Mov w w' r r') (hq : ∀ k, q = some k → k < w.heap.size) (hd : r = none ∨ r ≠ q) : r' = none ∨ r' ≠ q := by
  rcases h.at_ with e | ⟨b, e, hb⟩
  · rw [e]; exact hd
  · right; rw [e]; intro e'; have := hq b e'.symm; omega
theorem apart_flip {p q : Option Nat} (h : p = none ∨ p ≠ q) : q = none ∨ q ≠ p := by
  rcases h with h | h
  · subst h; cases q <;> simp
  · exact .inr (Ne.symm h)
theorem post_name {P : Program} {f : Func} {Q : Ending → World → Prop} {e : Exit} {a : Act} {w : World} (h : ∀ W', w = W' → bodyPost P f Q e a W') : bodyPost P f Q e a w := h _ rfl
def allB (a b : Dfa) : List BSet := partsB (partsB a.cls ++ partsB b.cls)
def byB (a : Dfa) (s : BSet) : Int := (tabF (pairsOf (partsB a.cls)) (firstB s).1.toNat : Nat)
end Rp
namespace Go.Proofs
open Go.RowKit Go.Shelf Rp
attribute [local go_sem] Oper.semAt_some
theorem parts_pos (l : List BSet) : 0 < (partsB l).length := by
  unfold partsB; rw [List.length_mergeSort]; exact raw_pos l
theorem parts_le (l : List BSet) : (partsB l).length ≤ 256 := by
  unfold partsB; rw [List.length_mergeSort]; exact (disj_raw l).length
abbrev bothC (ha hb : DA) (a b : Dfa) (v1 v2 v3 f : Value) : Array Value := #[.slice ha.A1 a.cls.length ha.c1, .slice ha.A2 a.next.length ha.c2, .slice ha.A3 a.marks.length ha.c3, .slice hb.A1 b.cls.length hb.c1, .slice hb.A2 b.next.length hb.c2, .slice hb.A3 b.marks.length hb.c3, v1, v2, v3, f]
set_option maxRecDepth 100000 in
set_option maxHeartbeats 1600000 in
theorem c_join (A1 A2 A3 B1 B2 B3 : Option Addr) (k1 k2 k3 m1 m2 m3 : Nat) (a b : Dfa) (fn : Nat) (F : Nat → Prop) (w : World) (hsa : Kset.S w F A1 a.cls) (hsb : Kset.S w F B1 b.cls) (hla : a.cls.length ≤ k1) (hma : k1 ≤ 9223372036854775807) (hlb : b.cls.length ≤ m1) (hmb : m1 ≤ 9223372036854775807) :
    Calls Tryz.prog 48 #[.agg #[.slice A1 a.cls.length k1, .slice A2 a.next.length k2, .slice A3 a.marks.length k3], .agg #[.slice B1 b.cls.length m1, .slice B2 b.next.length m2, .slice B3 b.marks.length m3], .func (.func fn) #[] #[]] w fun e w' => ∃ v1 v2 v3,
      e = .returned (.agg #[.slice A1 a.cls.length k1, .slice A2 a.next.length k2, .slice A3 a.marks.length k3, .slice B1 b.cls.length m1, .slice B2 b.next.length m2, .slice B3 b.marks.length m3, v1, v2, v3, .func (.func fn) #[] #[]]) ∧
      OwnS Kset 33 w' w.heap.size (fun k => w.heap.size ≤ k) v1 (allB a b) ∧ OwnS Kint 3 w' w.heap.size (fun k => w.heap.size ≤ k) v2 ((allB a b).map (byB a)) ∧ OwnS Kint 3 w' w.heap.size (fun k => w.heap.size ≤ k) v3 ((allB a b).map (byB b)) ∧ Below w.heap.size w w' := by
  have hofa := fun W' (hW' : Below w.heap.size w W') => c_alphOf A1 k1 a.cls _ W' (hsa.step fun b _ hl => hW'.block b hl) hla hma
  have hofb := fun W' (hW' : Below w.heap.size w W') => c_alphOf B1 m1 b.cls _ W' (hsb.step fun b _ hl => hW'.block b hl) hlb hmb
  have hpa := parts_pos a.cls
  have hpb := parts_pos b.cls
  have hqa := parts_le a.cls
  have hqb := parts_le b.cls
  have hpc := parts_pos (partsB a.cls ++ partsB b.cls)
  have hqc := parts_le (partsB a.cls ++ partsB b.cls)
  have hall : ∀ l, partsB (partsB a.cls ++ partsB b.cls) = l → allB a b = l := fun l h => h
  have hone : ∀ l, partsB a.cls = l → ∀ s, byB a s = ((tabF (pairsOf l) (firstB s).1.toNat : Nat) : Int) := fun l h s => by rw [← h]; rfl
  have htwo : ∀ l, partsB b.cls = l → ∀ s, byB b s = ((tabF (pairsOf l) (firstB s).1.toNat : Nat) : Int) := fun l h s => by rw [← h]; rfl
  generalize hca : partsB a.cls = ca at *
  generalize hcb : partsB b.cls = cb at *
  generalize hcc : partsB (ca ++ cb) = cc at *
  have hall := hall cc rfl
  have hone := hone ca rfl
  have htwo := htwo cb rfl
  clear hca hcb
  go_enter Tryz.func48, Tryz.ntmps48
  go_wp2_with fail
  refine wp_name fun W1 hW1 => ?_
  have q0 : W1.heap[w.heap.size]? = some (.cells #[.slice A1 a.cls.length k1, .slice A2 a.next.length k2, .slice A3 a.marks.length k3] 25 (0, 0)) := by
    rw [← hW1]; exact (Below.heap_alloc _ _ _ (by simp; omega)).trans ((Below.heap_alloc _ _ _ (by simp)).trans (World.alloc_heap_new w _))
  have q1 : W1.heap[w.heap.size + 1]? = some (.cells #[.slice B1 b.cls.length m1, .slice B2 b.next.length m2, .slice B3 b.marks.length m3] 25 (0, 0)) := by
    rw [← hW1]; refine (Below.heap_alloc _ _ _ (by simp)).trans ?_
    have := World.alloc_heap_new (w.alloc (.cells #[.slice A1 a.cls.length k1, .slice A2 a.next.length k2, .slice A3 a.marks.length k3] 25)) (.cells #[.slice B1 b.cls.length m1, .slice B2 b.next.length m2, .slice B3 b.marks.length m3] 25)
    simpa using this
  have q2 : ∃ cs, W1.heap[w.heap.size + 1 + 1]? = some (.cells cs 90 (0, 0)) ∧ cs = #[.slice none 0 0, .slice none 0 0, .slice none 0 0, .slice none 0 0, .slice none 0 0, .slice none 0 0, .slice none 0 0, .slice none 0 0, .slice none 0 0, .nilFunc] := by
    refine ⟨_, ?_, rfl⟩
    rw [← hW1]
    have := World.alloc_heap_new ((w.alloc (.cells #[.slice A1 a.cls.length k1, .slice A2 a.next.length k2, .slice A3 a.marks.length k3] 25)).alloc (.cells #[.slice B1 b.cls.length m1, .slice B2 b.next.length m2, .slice B3 b.marks.length m3] 25)) (.cells #[.slice none 0 0, .slice none 0 0, .slice none 0 0, .slice none 0 0, .slice none 0 0, .slice none 0 0, .slice none 0 0, .slice none 0 0, .slice none 0 0, .nilFunc] 90)
    simpa using this
  have hE1 : Ext w W1 := by rw [← hW1]; exact (((Ext.refl _).alloc _).alloc _).alloc _
  have hz1 : w.heap.size + 2 < W1.heap.size := by rw [← hW1]; simp
  obtain ⟨zc, q2, hzc⟩ := q2
  have HZC := Lib.hid hzc
  clear hW1 hzc
  have p0 := cell_of_row W1.drew w.heap.size 0 _ _ _ q0
  have p1 := cell_of_row W1.drew (w.heap.size + 1) 0 _ _ _ q1
  simp at p0 p1
  go_region_held3 (fun w' => (w'.cell? ⟨w.heap.size, 0, none⟩ = some (.slice A1 a.cls.length k1)) ∧ (w'.cell? ⟨w.heap.size + 1, 0, none⟩ = some (.slice B1 b.cls.length m1)))
    (first | exact ⟨p0, p1⟩ | exact ⟨r0, r1⟩ | go_keep)
    ((first
      | ((with_reducible refine (hofa W1.drew hE1.drew.below).mono ?_)
         rintro e w1 ⟨b1, rfl, hX, hB1⟩
         have r0 := bcellS hB1 p0
         have r1 := bcellS hB1 p1
         have hBw1 := hE1.drew.below.trans (hB1.mono hE1.drew.size))
      | ((with_reducible refine (hofb w1 hBw1).mono ?_)
         rintro e w2 ⟨b2, rfl, hY, hB2⟩
         have r0 := bcellS hB2 r0
         have r1 := bcellS hB2 r1
         have hBw2 := hBw1.trans (hB2.mono hBw1.size))))
  rename_i hH0
  have hX2 := (hX.below hB2).mono (G := fun k => W1.heap.size ≤ k) (fun k hk => hk)
  have hY2 := hY.mono (G := fun k => W1.heap.size ≤ k) (fun k hk => Nat.le_trans hB1.size hk)
  have hBx2 : Below W1.heap.size W1 w2 := ((Below.refl _ W1).drew.trans hB1).trans (hB2.mono hB1.size)
  clear hH0 hofa hofb p0 p1 r0 r1 hX hY hB1 hB2 hBw1
  have hjoin := c_alphJoin b1 b2 ca cb _ w2 hX2 hY2 hpa hpb (by omega)
  rw [hcc] at hjoin
  have hcA : ∀ W', Below W1.heap.size W1 W' → W'.cell? ⟨w.heap.size, 0, none⟩ = some (.slice A1 a.cls.length k1) ∧ W'.cell? ⟨w.heap.size, 1, none⟩ = some (.slice A2 a.next.length k2) ∧ W'.cell? ⟨w.heap.size, 2, none⟩ = some (.slice A3 a.marks.length k3) ∧
      W'.cell? ⟨w.heap.size + 1, 0, none⟩ = some (.slice B1 b.cls.length m1) ∧ W'.cell? ⟨w.heap.size + 1, 1, none⟩ = some (.slice B2 b.next.length m2) ∧ W'.cell? ⟨w.heap.size + 1, 2, none⟩ = some (.slice B3 b.marks.length m3) := fun W' hW' => by
    have e0 := (hW'.block _ (Array.getElem?_eq_some_iff.1 q0).1).trans q0
    have e1 := (hW'.block _ (Array.getElem?_eq_some_iff.1 q1).1).trans q1
    exact ⟨cell_of_row W' _ 0 _ _ _ e0, cell_of_row W' _ 1 _ _ _ e0, cell_of_row W' _ 2 _ _ _ e0, cell_of_row W' _ 0 _ _ _ e1, cell_of_row W' _ 1 _ _ _ e1, cell_of_row W' _ 2 _ _ _ e1⟩
  go_wp2_with (first
    | (go_at_call 70; refine hjoin.mono ?_; rintro e w3 ⟨b3, rfl, hZ, hB3⟩; obtain ⟨g0, g1, g2, g3, g4, g5⟩ := hcA w3 (hBx2.trans (hB3.mono hBx2.size)); obtain ⟨_, hb3, _, A', cap', hc3, _⟩ := hZ.at; have hlen : ∀ o, Calls Tryz.prog 71 #[.pointer (some ⟨b3, 0, none⟩)] (w3.alloc o) fun e w' => e = .returned (.int .i64 (cc.length : Int)) ∧ w' = w3.alloc o := fun o => c_alphLen b3 A' cc.length cap' (w3.alloc o) (by go_simp) hpc)
    | (go_at_call 71; refine (hlen _).mono ?_; rintro e w4 ⟨rfl, rfl⟩))
  have hZ3 := hZ.mono (G := fun k => W1.heap.size ≤ k) (fun k hk => Nat.le_trans hBx2.size hk)
  have hX3 := hX2.below hB3
  have hY3 := hY2.below hB3
  have hBx3 := hBx2.trans (hB3.mono hBx2.size)
  have q2' := (hBx3.block _ (Array.getElem?_eq_some_iff.1 q2).1).trans q2
  have hBw3 := hE1.below.trans (hBx3.mono hE1.size)
  have hz3 : w.heap.size + 2 < w3.heap.size := Nat.lt_of_lt_of_le hz1 hBx3.size
  clear hlen hcA hjoin hX2 hY2 hBx2 hB3 hZ g0 g1 g2 g3 g4 g5 q0 q1 q2 hE1 hc3 hBw2 hBx3 hsa hsb hla hma hlb hmb
  refine wp_name fun W4 hW4 => ?_
  have x0 : W4.heap[w3.heap.size]? = some (.cells (#[.slice A1 a.cls.length k1, .slice A2 a.next.length k2, .slice A3 a.marks.length k3, .slice B1 b.cls.length m1, .slice B2 b.next.length m2, .slice B3 b.marks.length m3, .slice none 0 0, .slice none 0 0, .slice none 0 0, .func (.func fn) #[] #[]]) 90 (0, 0)) := by
    rw [← hW4]; exact World.alloc_heap_new w3 _
  have hE4 : Ext w3 W4 := by rw [← hW4]; exact (Ext.refl _).alloc _
  have hz4 : W4.heap.size = w3.heap.size + 1 := by rw [← hW4]; simp
  clear hW4
  go_loopg [31] (cc.length + 1) (fun gk i wr => ∃ (k : Nat) (v1 v2 v3 : Value), i = .int .i64 k ∧ k ≤ cc.length ∧ gk + k = cc.length + 1 ∧ Below w3.heap.size w3 wr ∧ W4.heap.size ≤ wr.heap.size ∧
    wr.heap[w3.heap.size]? = some (.cells (#[.slice A1 a.cls.length k1, .slice A2 a.next.length k2, .slice A3 a.marks.length k3, .slice B1 b.cls.length m1, .slice B2 b.next.length m2, .slice B3 b.marks.length m3, v1, v2, v3, .func (.func fn) #[] #[]]) 90 (0, 0)) ∧
    OwnS Kset 33 wr W4.heap.size (fun k => W4.heap.size ≤ k) v1 (cc.take k) ∧ OwnS Kint 3 wr W4.heap.size (fun k => W4.heap.size ≤ k) v2 ((cc.take k).map (byB a)) ∧ OwnS Kint 3 wr W4.heap.size (fun k => W4.heap.size ≤ k) v3 ((cc.take k).map (byB b)) ∧
    (v1.ownBlock = none ∨ v1.ownBlock ≠ v2.ownBlock) ∧ (v1.ownBlock = none ∨ v1.ownBlock ≠ v3.ownBlock) ∧ (v2.ownBlock = none ∨ v2.ownBlock ≠ v3.ownBlock))
  case atStart => exact ⟨0, .slice none 0 0, .slice none 0 0, .slice none 0 0, rfl, by omega, by omega, hE4.below, Nat.le_refl _, x0, OwnS.nil _ _ _ _ _, OwnS.nil _ _ _ _ _, OwnS.nil _ _ _ _ _, .inl rfl, .inl rfl, .inl rfl⟩
  case round =>
    obtain ⟨k, v1, v2, v3, rfl, hk, hgk, hB, hsz, hx, hO1, hO2, hO3, d12, d13, d23⟩ := hrel
    have HG := Lib.hid hgk
    clear hgk
    by_cases hlt : k < cc.length
    · have hBx : w3.heap.size < W4.heap.size := by omega
      have hZr := hZ3.below hB
      have hset := c_alphSet b3 k cc _ wr hZr hlt
      have hleast := fun W' (h : Ext wr W') => c_alphLeast b3 k cc _ W' (hZr.below h.below) hlt
      have htk : cc.take (k + 1) = cc.take k ++ [cc[k]] := by rw [List.take_add_one, List.getElem?_eq_getElem hlt]; rfl
      have hle : (cc.take k).length ≤ 256 := by simp; omega
      have hle2 : ((cc.take k).map (byB a)).length ≤ 256 := by simp; omega
      have hle3 : ((cc.take k).map (byB b)).length ≤ 256 := by simp; omega
      have hm2 : (cc.take (k + 1)).map (byB a) = (cc.take k).map (byB a) ++ [byB a cc[k]] := by rw [htk, List.map_append]; rfl
      have hm3 : (cc.take (k + 1)).map (byB b) = (cc.take k).map (byB b) ++ [byB b cc[k]] := by rw [htk, List.map_append]; rfl
      have hi1 : inI64 (byB a cc[k]) := by rw [hone]; have := tabF_lt (pairsOf ca) (firstB cc[k]).1.toNat; constructor <;> omega
      have hi2 : inI64 (byB b cc[k]) := by rw [htwo]; have := tabF_lt (pairsOf cb) (firstB cc[k]).1.toNat; constructor <;> omega
      have hcl1 : ∀ W', Below w3.heap.size w3 W' → Calls Tryz.prog 74 #[.pointer (some ⟨b1, 0, none⟩), byteV (firstB cc[k]).1] W' fun e w' => e = .returned (.int .i64 (byB a cc[k])) ∧ w' = W' := fun W' h => by
        obtain ⟨_, _, ht, A, cap, hc, _⟩ := (hX3.below h).at
        rw [hone]
        exact c_alphClass b1 A ca.length cap _ _ W' hc hpa (UInt8.toNat_lt _) (ht _ (UInt8.toNat_lt _)) (tabF_lt _ _)
      have hcl2 : ∀ W', Below w3.heap.size w3 W' → Calls Tryz.prog 74 #[.pointer (some ⟨b2, 0, none⟩), byteV (firstB cc[k]).1] W' fun e w' => e = .returned (.int .i64 (byB b cc[k])) ∧ w' = W' := fun W' h => by
        obtain ⟨_, _, ht, A, cap, hc, _⟩ := (hY3.below h).at
        rw [htwo]
        exact c_alphClass b2 A cb.length cap _ _ W' hc hpb (UInt8.toNat_lt _) (ht _ (UInt8.toNat_lt _)) (tabF_lt _ _)
      generalize byB a cc[k] = ka at *
      generalize byB b cc[k] = kb at *
      generalize (cc.take k).map (byB a) = t2 at *
      generalize (cc.take k).map (byB b) = t3 at *
      generalize cc.take k = t1 at *
      generalize firstB cc[k] = fb at *
      generalize cc[k] = sx at *
      have HM1 := Lib.hid htk
      have HM2 := Lib.hid hm2
      have HM3 := Lib.hid hm3
      have hk0 : (0 : Int) ≤ k := by omega
      have hk1 : (k : Int) < cc.length := by omega
      clear htk hm2 hm3 hone htwo hall hpc hqa hqb
      obtain ⟨wo, rfl⟩ : ∃ wo : World, wo = wr := ⟨_, rfl⟩
      go_wp2_with (first
        | (go_at_call 72; refine hset.mono ?_; rintro e w5 ⟨rfl, hE5⟩)
        | (go_at_call 73; refine (hleast _ (hE5.alloc _)).mono ?_; rintro e w6 ⟨rfl, hE6⟩))
      have hE56 := (hE5.alloc (.cells (setC sx) 33)).trans hE6
      have hB6 := hB.trans (hE56.below.mono hB.size)
      have hx6 := (hE56.block hx)
      have hsb : (w5.alloc (.cells (setC sx) 33)).heap[w5.heap.size]? = some (.cells (setC sx) 33 (0, 0)) := World.alloc_heap_new w5 _
      have hsb6 := hE6.block hsb
      have y6 := cell_of_row w6 _ 6 _ _ _ hx6
      have y7 := cell_of_row w6 _ 7 _ _ _ hx6
      have y8 := cell_of_row w6 _ 8 _ _ _ hx6
      have s0 := cell_of_row w6 _ 0 _ _ _ hsb6
      have s1 := cell_of_row w6 _ 1 _ _ _ hsb6
      have s2 := cell_of_row w6 _ 2 _ _ _ hsb6
      have s3 := cell_of_row w6 _ 3 _ _ _ hsb6
      simp at y6 y7 y8 s0 s1 s2 s3
      have hO1a := hO1.step (w1 := w6) fun b _ hl => hE56.below.block b hl
      have hO2a := hO2.step (w1 := w6) fun b _ hl => hE56.below.block b hl
      have hO3a := hO3.step (w1 := w6) fun b _ hl => hE56.below.block b hl
      have hne : ∀ {v : Value} {base : Nat}, (∀ q, v.ownBlock = some q → W4.heap.size ≤ q ∧ q < wo.heap.size) → ∀ q, v.ownBlock = some q → q ≠ w3.heap.size ∧ q ≠ w5.heap.size := fun h q hq => by have := h q hq; have := hE5.size; omega
      have hq1 := hne (base := 0) hO1.lt
      have hq2 := hne (base := 0) hO2.lt
      have hq3 := hne (base := 0) hO3.lt
      have hl2 : ∀ q, v2.ownBlock = some q → q < w6.heap.size := fun q hq => (hO2a.lt q hq).2
      have hl3 : ∀ q, v3.ownBlock = some q → q < w6.heap.size := fun q hq => (hO3a.lt q hq).2
      have hW46 : W4.heap.size ≤ w6.heap.size := Nat.le_trans hsz hE56.size
      have hB4 : ∀ q, W4.heap.size ≤ q → w3.heap.size ≤ q := fun q hq => by omega
      have hmk : ∀ (x y : World) (r r' : Option Nat), Mov x y r r' → (∀ q, r = some q → q ≠ w3.heap.size ∧ q ≠ w5.heap.size) →
          (x.cell? ⟨w3.heap.size, 6, none⟩ = some v1 ∧ x.cell? ⟨w3.heap.size, 7, none⟩ = some v2 ∧ x.cell? ⟨w3.heap.size, 8, none⟩ = some v3 ∧ x.cell? ⟨w5.heap.size, 0, none⟩ = some (Rp.u64 (wd sx 0)) ∧ x.cell? ⟨w5.heap.size, 1, none⟩ = some (Rp.u64 (wd sx 1)) ∧ x.cell? ⟨w5.heap.size, 2, none⟩ = some (Rp.u64 (wd sx 2)) ∧ x.cell? ⟨w5.heap.size, 3, none⟩ = some (Rp.u64 (wd sx 3))) →
          (y.cell? ⟨w3.heap.size, 6, none⟩ = some v1 ∧ y.cell? ⟨w3.heap.size, 7, none⟩ = some v2 ∧ y.cell? ⟨w3.heap.size, 8, none⟩ = some v3 ∧ y.cell? ⟨w5.heap.size, 0, none⟩ = some (Rp.u64 (wd sx 0)) ∧ y.cell? ⟨w5.heap.size, 1, none⟩ = some (Rp.u64 (wd sx 1)) ∧ y.cell? ⟨w5.heap.size, 2, none⟩ = some (Rp.u64 (wd sx 2)) ∧ y.cell? ⟨w5.heap.size, 3, none⟩ = some (Rp.u64 (wd sx 3))) :=
        fun x y r r' hm hr h => ⟨hm.cell h.1 (fun e => (hr _ e.symm).1 rfl), hm.cell h.2.1 (fun e => (hr _ e.symm).1 rfl), hm.cell h.2.2.1 (fun e => (hr _ e.symm).1 rfl), hm.cell h.2.2.2.1 (fun e => (hr _ e.symm).2 rfl), hm.cell h.2.2.2.2.1 (fun e => (hr _ e.symm).2 rfl), hm.cell h.2.2.2.2.2.1 (fun e => (hr _ e.symm).2 rfl), hm.cell h.2.2.2.2.2.2 (fun e => (hr _ e.symm).2 rfl)⟩
      have hS0 : (w6.drew.cell? ⟨w3.heap.size, 6, none⟩ = some v1 ∧ w6.drew.cell? ⟨w3.heap.size, 7, none⟩ = some v2 ∧ w6.drew.cell? ⟨w3.heap.size, 8, none⟩ = some v3 ∧ w6.drew.cell? ⟨w5.heap.size, 0, none⟩ = some (Rp.u64 (wd sx 0)) ∧ w6.drew.cell? ⟨w5.heap.size, 1, none⟩ = some (Rp.u64 (wd sx 1)) ∧ w6.drew.cell? ⟨w5.heap.size, 2, none⟩ = some (Rp.u64 (wd sx 2)) ∧ w6.drew.cell? ⟨w5.heap.size, 3, none⟩ = some (Rp.u64 (wd sx 3))) := ⟨y6, y7, y8, s0, s1, s2, s3⟩
      have HHX := Lib.hid hx6
      have hS1 := hmk _ _ _ _ (Mov.drew (Mov.alloc (Mov.refl w6 none) (.cells (setC sx) 33))) (fun _ h => by cases h) hS0
      clear hset hleast hx hsb hsb6 y6 y7 y8 s0 s1 s2 s3 hO1 hO2 hO3 x0 hE5 hE6 hne hZr hx6
      refine wp_region_noPanic (wp_region_T (fun w' => w'.cell? ⟨w3.heap.size, 6, none⟩ = some v1 ∧ w'.cell? ⟨w3.heap.size, 7, none⟩ = some v2 ∧ w'.cell? ⟨w3.heap.size, 8, none⟩ = some v3 ∧ w'.cell? ⟨w5.heap.size, 0, none⟩ = some (Rp.u64 (wd sx 0)) ∧ w'.cell? ⟨w5.heap.size, 1, none⟩ = some (Rp.u64 (wd sx 1)) ∧ w'.cell? ⟨w5.heap.size, 2, none⟩ = some (Rp.u64 (wd sx 2)) ∧ w'.cell? ⟨w5.heap.size, 3, none⟩ = some (Rp.u64 (wd sx 3))) [1, 2, 6, 13] (by kernel_rfl) ?_)
      refine wpAnyT_takeY (i := 0) (v := ?v0) rfl (by kernel_rfl) (by kernel_rfl) (by kernel_rfl) (fun _ _ _ h => h) (by rfl) ?hy0 ?r0
      case hy0 => (intro w; go_simp; try (with_reducible rfl))
      case r0 =>
      try simp only [Act.put, List.setIfInBounds_toArray, List.set_cons_zero, List.set_cons_succ]
      refine wpAnyT_take (i := 1) (v := ?v1) rfl rfl (by kernel_rfl) (by kernel_rfl) (by kernel_rfl) (fun _ _ _ h => h) (by rfl) hS0 ?hy1 ?r1
      case hy1 => (intro w hSw; (try dsimp only at hSw); go_simp; try (with_reducible rfl))
      case r1 =>
      try simp only [Act.put, List.setIfInBounds_toArray, List.set_cons_zero, List.set_cons_succ]
      refine wpAnyT_take (i := 2) (v := ?v2) rfl rfl (by kernel_rfl) (by kernel_rfl) (by kernel_rfl) (fun _ _ _ h => h) (by rfl) hS0 ?hy2 ?r2
      case hy2 => (intro w hSw; (try dsimp only at hSw); go_simp; try (with_reducible rfl))
      case r2 =>
      try simp only [Act.put, List.setIfInBounds_toArray, List.set_cons_zero, List.set_cons_succ]
      refine wpAnyT_takeY (i := 5) (v := ?v5) rfl (by kernel_rfl) (by kernel_rfl) (by kernel_rfl) (fun _ _ _ h => h) (by rfl) ?hy5 ?r5
      case hy5 => (intro w; go_simp; try (with_reducible rfl))
      case r5 =>
      try simp only [Act.put, List.setIfInBounds_toArray, List.set_cons_zero, List.set_cons_succ]
      refine wpAnyT_take (i := 6) (v := ?v6) rfl rfl (by kernel_rfl) (by kernel_rfl) (by kernel_rfl) (fun _ _ _ h => h) (by rfl) hS0 ?hy6 ?r6
      case hy6 => (intro w hSw; (try dsimp only at hSw); go_simp; try (with_reducible rfl))
      case r6 =>
      try simp only [Act.put, List.setIfInBounds_toArray, List.set_cons_zero, List.set_cons_succ]
      refine wpAnyT_takeY (i := 7) (v := ?v7) rfl (by kernel_rfl) (by kernel_rfl) (by kernel_rfl) (fun _ _ _ h => h) (by rfl) ?hy7 ?r7
      case hy7 => (intro w; go_simp; try (with_reducible rfl))
      case r7 =>
      try simp only [Act.put, List.setIfInBounds_toArray, List.set_cons_zero, List.set_cons_succ]
      refine wpAnyT_takeY (i := 8) (v := ?v8) rfl (by kernel_rfl) (by kernel_rfl) (by kernel_rfl) (fun _ _ _ h => h) (by rfl) ?hy8 ?r8
      case hy8 => (intro w; go_simp; try (with_reducible rfl))
      case r8 =>
      try simp only [Act.put, List.setIfInBounds_toArray, List.set_cons_zero, List.set_cons_succ]
      refine wpAnyT_takeY (i := 12) (v := ?v12) rfl (by kernel_rfl) (by kernel_rfl) (by kernel_rfl) (fun _ _ _ h => h) (by rfl) ?hy12 ?r12
      case hy12 => (intro w; go_simp; try (with_reducible rfl))
      case r12 =>
      try simp only [Act.put, List.setIfInBounds_toArray, List.set_cons_zero, List.set_cons_succ]
      refine wpAnyT_take (i := 13) (v := ?v13) rfl rfl (by kernel_rfl) (by kernel_rfl) (by kernel_rfl) (fun _ _ _ h => h) (by rfl) hS0 ?hy13 ?r13
      case hy13 => (intro w hSw; (try dsimp only at hSw); go_simp; try (with_reducible rfl))
      case r13 =>
      try simp only [Act.put, List.setIfInBounds_toArray, List.set_cons_zero, List.set_cons_succ]
      refine wpAnyT_takeY (i := 14) (v := ?v14) rfl (by kernel_rfl) (by kernel_rfl) (by kernel_rfl) (fun _ _ _ h => h) (by rfl) ?hy14 ?r14
      case hy14 => (intro w; go_simp; try (with_reducible rfl))
      case r14 =>
      try simp only [Act.put, List.setIfInBounds_toArray, List.set_cons_zero, List.set_cons_succ]
      refine wpAnyT_takeY (i := 15) (v := ?v15) rfl (by kernel_rfl) (by kernel_rfl) (by kernel_rfl) (fun _ _ _ h => h) (by rfl) ?hy15 ?r15
      case hy15 => (intro w; go_simp; try (with_reducible rfl))
      case r15 =>
      try simp only [Act.put, List.setIfInBounds_toArray, List.set_cons_zero, List.set_cons_succ]
      refine wpAnyT_one (i := 3) rfl (by kernel_rfl) (by rfl) (fun K hK => ?_)
      go_simp
      refine hK _ _ (fun _ _ => hS1) ?_
      clear hK K
      try simp only [Act.put, List.setIfInBounds_toArray, List.set_cons_zero, List.set_cons_succ]
      refine wpAnyT_one (i := 4) rfl (by kernel_rfl) (by rfl) (fun K hK => ?_)
      refine wp_own_appendS Kset (w6.alloc (.cells (setC sx) 33)).drew W4.heap.size _ _ 22 33 (.agg #[.int .u64 0, .int .u64 0, .int .u64 0, .int .u64 0]) 32 rfl Tryz.underlying22 info_set rfl (by decide) (by decide) v1 t1 [sx] (some ⟨w6.heap.size, 0, none⟩) 1 (fun k => W4.heap.size ≤ k) (fun _ => True) rfl rfl (box_S Kset w6.drew 33 (setC sx).toList sx _ rfl trivial) (fun _ _ h => h) (hO1a.step fun b _ hl => Below.heap_alloc w6.drew _ b hl) (fun k hk => Nat.le_trans hW46 (by simp at hk; omega)) (by simp; omega) (by simp; omega) ?_
      intro v1' w7 hO1b hM1 hv1
      have hS7 := hmk _ _ _ _ hM1 hq1 hS1
      have hB7 : Below w3.heap.size w3 w7 := Mov.below ((hB6.drew).alloc (Nat.le_trans hB6.size (by simp)) _) hM1 (Nat.le_trans hB6.size (by simp)) (fun q hq => hB4 q (hO1a.lt q hq).1)
      have hO2b := (hO2a.step (w1 := w6.drew.alloc (.cells (setC sx) 33)) fun b _ hl => Below.heap_alloc w6.drew _ b hl).mov flatInt hM1 (apart_flip d12)
      have hO3b := (hO3a.step (w1 := w6.drew.alloc (.cells (setC sx) 33)) fun b _ hl => Below.heap_alloc w6.drew _ b hl).mov flatInt hM1 (apart_flip d13)
      have hs67 : w6.heap.size ≤ w7.heap.size := Nat.le_trans (by simp) hM1.size
      have d12b := Mov.apart hM1 (fun q hq => by have := hl2 q hq; simp; omega) d12
      have d13b := Mov.apart hM1 (fun q hq => by have := hl3 q hq; simp; omega) d13
      have hx7 := Lib.hid (hM1.heap (b := w3.heap.size) ((Below.heap_alloc w6 _ _ (Nat.lt_of_lt_of_le hBx hW46)).trans HHX.out) (fun e => (hq1 _ e.symm).1 rfl))
      obtain ⟨g1, n1, rfl⟩ := hv1 (by simp)
      refine hK _ _ (fun _ _ => hS7) ?_
      clear hK K
      try simp only [Act.put, List.setIfInBounds_toArray, List.set_cons_zero, List.set_cons_succ]
      refine wpAnyT_takeY (i := 19) (v := ?v19) rfl (by kernel_rfl) (by kernel_rfl) (by kernel_rfl) (fun _ _ _ h => h) (by rfl) ?hy19 ?r19
      case hy19 => (intro w; go_simp; try (with_reducible rfl))
      case r19 =>
      try simp only [Act.put, List.setIfInBounds_toArray, List.set_cons_zero, List.set_cons_succ]
      refine wpAnyT_one (i := 9) rfl (by kernel_rfl) (by rfl) (fun K hK => ?_)
      go_simp
      refine (hcl1 _ hB7).mono ?_
      rintro e w7 ⟨rfl, rfl⟩
      try dsimp only
      refine hK _ _ (fun _ h => h) ?_
      clear hK K
      try simp only [Act.put, List.setIfInBounds_toArray, List.set_cons_zero, List.set_cons_succ]
      refine wpAnyT_one (i := 10) rfl (by kernel_rfl) (by rfl) (fun K hK => ?_)
      go_simp
      refine hK _ _ (fun _ _ => hmk _ _ _ _ (Mov.alloc (Mov.refl w7 none) _) (fun _ h => by cases h) hS7) ?_
      clear hK K
      try simp only [Act.put, List.setIfInBounds_toArray, List.set_cons_zero, List.set_cons_succ]
      refine wpAnyT_one (i := 11) rfl (by kernel_rfl) (by rfl) (fun K hK => ?_)
      refine wp_own_appendS Kint (w7.alloc (.cells #[.int .i64 ka] 3)) W4.heap.size _ _ 36 3 (.int .i64 0) 8 rfl Tryz.underlying36 info_int rfl (by decide) (by decide) v2 t2 [ka] (some ⟨w7.heap.size, 0, none⟩) 1 (fun k => W4.heap.size ≤ k) (fun _ => True) rfl rfl (box_S Kint w7 3 [.int .i64 ka] ka _ ⟨rfl, hi1⟩ trivial) (fun _ _ h => h) (hO2b.step fun b _ hl => Below.heap_alloc w7 _ b hl) (fun k hk => Nat.le_trans hW46 (Nat.le_trans hs67 (by simp at hk; omega))) (by simp; omega) (by simp; omega) ?_
      intro v2' w8 hO2c hM2 hv2
      have hS8 := hmk _ _ _ _ hM2 hq2 (hmk _ _ _ _ (Mov.alloc (Mov.refl w7 none) (.cells #[.int .i64 ka] 3)) (fun _ h => by cases h) hS7)
      have hB8 : Below w3.heap.size w3 w8 := Mov.below (hB7.alloc hB7.size _) hM2 (Nat.le_trans hB7.size (by simp)) (fun q hq => hB4 q (hO2b.lt q hq).1)
      have hO1c := (hO1b.step (w1 := w7.alloc (.cells #[.int .i64 ka] 3)) fun b _ hl => Below.heap_alloc w7 _ b hl).mov flatSet hM2 d12b
      have hO3c := (hO3b.step (w1 := w7.alloc (.cells #[.int .i64 ka] 3)) fun b _ hl => Below.heap_alloc w7 _ b hl).mov flatInt hM2 (apart_flip d23)
      have hs78 : w7.heap.size ≤ w8.heap.size := Nat.le_trans (by simp) hM2.size
      have d12c := apart_flip (Mov.apart hM2 (fun q hq => by have := (hO1b.lt q hq).2; simp; omega) (apart_flip d12b))
      have d23c := Mov.apart hM2 (fun q hq => by have := hl3 q hq; simp; omega) d23
      have hx8 := Lib.hid (hM2.heap (b := w3.heap.size) ((Below.heap_alloc w7 _ _ (Nat.lt_of_lt_of_le hBx (Nat.le_trans hW46 hs67))).trans hx7.out) (fun e => (hq2 _ e.symm).1 rfl))
      obtain ⟨g2, n2, rfl⟩ := hv2 (by simp)
      refine hK _ _ (fun _ _ => hS8) ?_
      clear hK K
      try simp only [Act.put, List.setIfInBounds_toArray, List.set_cons_zero, List.set_cons_succ]
      refine wpAnyT_one (i := 16) rfl (by kernel_rfl) (by rfl) (fun K hK => ?_)
      go_simp
      refine (hcl2 _ hB8).mono ?_
      rintro e w8 ⟨rfl, rfl⟩
      try dsimp only
      refine hK _ _ (fun _ h => h) ?_
      clear hK K
      try simp only [Act.put, List.setIfInBounds_toArray, List.set_cons_zero, List.set_cons_succ]
      refine wpAnyT_one (i := 17) rfl (by kernel_rfl) (by rfl) (fun K hK => ?_)
      go_simp
      refine hK _ _ (fun _ _ => hmk _ _ _ _ (Mov.alloc (Mov.refl w8 none) _) (fun _ h => by cases h) hS8) ?_
      clear hK K
      try simp only [Act.put, List.setIfInBounds_toArray, List.set_cons_zero, List.set_cons_succ]
      refine wpAnyT_one (i := 18) rfl (by kernel_rfl) (by rfl) (fun K hK => ?_)
      refine wp_own_appendS Kint (w8.alloc (.cells #[.int .i64 kb] 3)) W4.heap.size _ _ 36 3 (.int .i64 0) 8 rfl Tryz.underlying36 info_int rfl (by decide) (by decide) v3 t3 [kb] (some ⟨w8.heap.size, 0, none⟩) 1 (fun k => W4.heap.size ≤ k) (fun _ => True) rfl rfl (box_S Kint w8 3 [.int .i64 kb] kb _ ⟨rfl, hi2⟩ trivial) (fun _ _ h => h) (hO3c.step fun b _ hl => Below.heap_alloc w8 _ b hl) (fun k hk => Nat.le_trans hW46 (Nat.le_trans hs67 (Nat.le_trans hs78 (by simp at hk; omega)))) (by simp; omega) (by simp; omega) ?_
      intro v3' w9 hO3d hM3 hv3
      have hS9 := hmk _ _ _ _ hM3 hq3 (hmk _ _ _ _ (Mov.alloc (Mov.refl w8 none) (.cells #[.int .i64 kb] 3)) (fun _ h => by cases h) hS8)
      have hB9 : Below w3.heap.size w3 w9 := Mov.below (hB8.alloc hB8.size _) hM3 (Nat.le_trans hB8.size (by simp)) (fun q hq => hB4 q (hO3c.lt q hq).1)
      have hO1d := (hO1c.step (w1 := w8.alloc (.cells #[.int .i64 kb] 3)) fun b _ hl => Below.heap_alloc w8 _ b hl).mov flatSet hM3 d13b
      have hO2d := (hO2c.step (w1 := w8.alloc (.cells #[.int .i64 kb] 3)) fun b _ hl => Below.heap_alloc w8 _ b hl).mov flatInt hM3 d23c
      have hs89 : w8.heap.size ≤ w9.heap.size := Nat.le_trans (by simp) hM3.size
      have d13d := apart_flip (Mov.apart hM3 (fun q hq => by have := (hO1c.lt q hq).2; simp; omega) (apart_flip d13b))
      have d23d := apart_flip (Mov.apart hM3 (fun q hq => by have := (hO2c.lt q hq).2; simp; omega) (apart_flip d23c))
      have hx9 := hM3.heap (b := w3.heap.size) ((Below.heap_alloc w8 _ _ (Nat.lt_of_lt_of_le hBx (Nat.le_trans hW46 (Nat.le_trans hs67 hs78)))).trans hx8.out) (fun e => (hq3 _ e.symm).1 rfl)
      have hfz := fun j => frozen_of_row w9 _ j _ _ hx9
      have HX9 := Lib.hid hx9
      clear hx9
      obtain ⟨g3, n3, rfl⟩ := hv3 (by simp)
      refine hK _ _ (fun _ _ => hS9) ?_
      clear hK K
      try simp only [Act.put, List.setIfInBounds_toArray, List.set_cons_zero, List.set_cons_succ]
      refine wpAnyT_one (i := 20) rfl (by kernel_rfl) (by rfl) (fun K hK => ?_)
      go_simp
      refine hK _ _ (no_need (by kernel_rfl)) ?_
      clear hK K
      try simp only [Act.put, List.setIfInBounds_toArray, List.set_cons_zero, List.set_cons_succ]
      refine wpAnyT_takeY (i := 21) (v := ?v21) rfl (by kernel_rfl) (by kernel_rfl) (by kernel_rfl) (fun _ _ _ h => h) (by rfl) ?hy21 ?r21
      case hy21 => (intro w; go_simp; try (with_reducible rfl))
      case r21 =>
      try simp only [Act.put, List.setIfInBounds_toArray, List.set_cons_zero, List.set_cons_succ]
      refine wpAnyT_one (i := 22) rfl (by kernel_rfl) (by rfl) (fun K hK => ?_)
      go_simp
      refine hK _ _ (no_need (by kernel_rfl)) ?_
      clear hK K
      try simp only [Act.put, List.setIfInBounds_toArray, List.set_cons_zero, List.set_cons_succ]
      refine wpAnyT_takeY (i := 23) (v := ?v23) rfl (by kernel_rfl) (by kernel_rfl) (by kernel_rfl) (fun _ _ _ h => h) (by rfl) ?hy23 ?r23
      case hy23 => (intro w; go_simp; try (with_reducible rfl))
      case r23 =>
      try simp only [Act.put, List.setIfInBounds_toArray, List.set_cons_zero, List.set_cons_succ]
      refine wpAnyT_one (i := 24) rfl (by kernel_rfl) (by rfl) (fun K hK => ?_)
      go_simp
      refine hK _ _ (no_need (by kernel_rfl)) ?_
      clear hK K
      try simp only [Act.put, List.setIfInBounds_toArray, List.set_cons_zero, List.set_cons_succ]
      refine wpAnyT_done (by kernel_rfl) ?_ _
      refine NoPanic.normal ?_
      have e1 : (t1 ++ [sx]).length = t1.length + 1 := by simp
      have e2 : (t2 ++ [ka]).length = t2.length + 1 := by simp
      have e3 : (t3 ++ [kb]).length = t3.length + 1 := by simp
      rw [e1] at hO1d d12c d13d
      rw [e2] at hO2d d12c d23d
      rw [e3] at hO3d d13d d23d
      have f0 := setCell_heap w9 w3.heap.size 6 _ _ _ (.slice (some ⟨g1, 0, none⟩) (t1.length + 1) n1) HX9.out
      have f1 := setCell_heap _ w3.heap.size 7 _ _ _ (.slice (some ⟨g2, 0, none⟩) (t2.length + 1) n2) f0
      have f2 := setCell_heap _ w3.heap.size 8 _ _ _ (.slice (some ⟨g3, 0, none⟩) (t3.length + 1) n3) f1
      have hB9' := ((hB9.setCell (p := ⟨w3.heap.size, 6, none⟩) (Nat.le_refl _) (.slice (some ⟨g1, 0, none⟩) (t1.length + 1) n1)).setCell (p := ⟨w3.heap.size, 7, none⟩) (Nat.le_refl _) (.slice (some ⟨g2, 0, none⟩) (t2.length + 1) n2)).setCell (p := ⟨w3.heap.size, 8, none⟩) (Nat.le_refl _) (.slice (some ⟨g3, 0, none⟩) (t3.length + 1) n3)
      have hmv : ∀ b, W4.heap.size ≤ b → b < w9.heap.size → (((w9.setCell ⟨w3.heap.size, 6, none⟩ (.slice (some ⟨g1, 0, none⟩) (t1.length + 1) n1)).setCell ⟨w3.heap.size, 7, none⟩ (.slice (some ⟨g2, 0, none⟩) (t2.length + 1) n2)).setCell ⟨w3.heap.size, 8, none⟩ (.slice (some ⟨g3, 0, none⟩) (t3.length + 1) n3)).heap[b]? = w9.heap[b]? := fun b hb _ =>
        ((Below.heap_setCell _ _ _ b (by simp; omega)).trans (Below.heap_setCell _ _ _ b (by simp; omega))).trans (Below.heap_setCell _ _ _ b (by simp; omega))
      have hO1e := hO1d.step hmv
      have hO2e := hO2d.step hmv
      have hO3e := hO3d.step hmv
      have hszF : W4.heap.size ≤ (((w9.setCell ⟨w3.heap.size, 6, none⟩ (.slice (some ⟨g1, 0, none⟩) (t1.length + 1) n1)).setCell ⟨w3.heap.size, 7, none⟩ (.slice (some ⟨g2, 0, none⟩) (t2.length + 1) n2)).setCell ⟨w3.heap.size, 8, none⟩ (.slice (some ⟨g3, 0, none⟩) (t3.length + 1) n3)).heap.size := by simp; omega
      generalize (((w9.setCell ⟨w3.heap.size, 6, none⟩ (.slice (some ⟨g1, 0, none⟩) (t1.length + 1) n1)).setCell ⟨w3.heap.size, 7, none⟩ (.slice (some ⟨g2, 0, none⟩) (t2.length + 1) n2)).setCell ⟨w3.heap.size, 8, none⟩ (.slice (some ⟨g3, 0, none⟩) (t3.length + 1) n3)) = WF at *
      clear hmk hS0 hS1 hS7 hS8 hS9 hcl1 hcl2 hfz
      go_wp2
      go_roundg (gk - 1)
      case measure => have := HG.out; omega
      case rel => exact ⟨k + 1, _, _, _, by go_num, by omega, by have := HG.out; omega, hB9', hszF, f2, by rw [HM1.out]; exact hO1e, by rw [HM2.out]; exact hO2e, by rw [HM3.out]; exact hO3e, d12c, d13d, d23d⟩
    · obtain rfl : k = cc.length := by omega
      rw [List.take_length] at hO1 hO2 hO3
      have q3 := (hB.block _ (Array.getElem?_eq_some_iff.1 q2').1).trans q2'
      rw [HZC.out] at q3
      have hBf := hBw3.trans (hB.mono hBw3.size)
      obtain ⟨a1, n1, rfl, _, _, _⟩ := hO1.reads
      obtain ⟨a2, n2, rfl, _, _, _⟩ := hO2.reads
      obtain ⟨a3, n3, rfl, _, _, _⟩ := hO3.reads
      have c0 := cell_of_row wr _ 0 _ _ _ hx
      have c1 := cell_of_row wr _ 1 _ _ _ hx
      have c2 := cell_of_row wr _ 2 _ _ _ hx
      have c3 := cell_of_row wr _ 3 _ _ _ hx
      have c4 := cell_of_row wr _ 4 _ _ _ hx
      have c5 := cell_of_row wr _ 5 _ _ _ hx
      have c6 := cell_of_row wr _ 6 _ _ _ hx
      have c7 := cell_of_row wr _ 7 _ _ _ hx
      have c8 := cell_of_row wr _ 8 _ _ _ hx
      have c9 := cell_of_row wr _ 9 _ _ _ hx
      have z0 := cell_of_row wr _ 0 _ _ _ q3
      have z1 := cell_of_row wr _ 1 _ _ _ q3
      have z2 := cell_of_row wr _ 2 _ _ _ q3
      have z3 := cell_of_row wr _ 3 _ _ _ q3
      have z4 := cell_of_row wr _ 4 _ _ _ q3
      have z5 := cell_of_row wr _ 5 _ _ _ q3
      have z6 := cell_of_row wr _ 6 _ _ _ q3
      have z7 := cell_of_row wr _ 7 _ _ _ q3
      have z8 := cell_of_row wr _ 8 _ _ _ q3
      have z9 := cell_of_row wr _ 9 _ _ _ q3
      have zf := fun j => frozen_of_row wr _ j _ _ q3
      simp at c0 c1 c2 c3 c4 c5 c6 c7 c8 c9 z0 z1 z2 z3 z4 z5 z6 z7 z8 z9
      have hzr : w.heap.size + 1 + 1 < wr.heap.size := (Array.getElem?_eq_some_iff.1 q3).1
      have HQ3 := Lib.hid q3
      clear hx q3
      have HO1 := Lib.hid hO1
      have HO2 := Lib.hid hO2
      have HO3 := Lib.hid hO3
      clear hO1 hO2 hO3
      go_wp2
      refine post_name fun WF hWF => ?_
      have hrow := set10 wr (w.heap.size + 1 + 1) _ _ _ _ _ _ _ _ _ _ _ (.slice A1 a.cls.length k1) (.slice A2 a.next.length k2) (.slice A3 a.marks.length k3) (.slice B1 b.cls.length m1) (.slice B2 b.next.length m2) (.slice B3 b.marks.length m3) (.slice a1 cc.length n1) (.slice a2 cc.length n2) (.slice a3 cc.length n3) (.func (.func fn) #[] #[]) HQ3.out
      rw [hWF] at hrow
      have u0 := cell_of_row WF _ 0 _ _ _ hrow
      have u1 := cell_of_row WF _ 1 _ _ _ hrow
      have u2 := cell_of_row WF _ 2 _ _ _ hrow
      have u3 := cell_of_row WF _ 3 _ _ _ hrow
      have u4 := cell_of_row WF _ 4 _ _ _ hrow
      have u5 := cell_of_row WF _ 5 _ _ _ hrow
      have u6 := cell_of_row WF _ 6 _ _ _ hrow
      have u7 := cell_of_row WF _ 7 _ _ _ hrow
      have u8 := cell_of_row WF _ 8 _ _ _ hrow
      have u9 := cell_of_row WF _ 9 _ _ _ hrow
      simp at u0 u1 u2 u3 u4 u5 u6 u7 u8 u9
      clear hrow
      have hrest := set10_rest wr (w.heap.size + 1 + 1) (.slice A1 a.cls.length k1) (.slice A2 a.next.length k2) (.slice A3 a.marks.length k3) (.slice B1 b.cls.length m1) (.slice B2 b.next.length m2) (.slice B3 b.marks.length m3) (.slice a1 cc.length n1) (.slice a2 cc.length n2) (.slice a3 cc.length n3) (.func (.func fn) #[] #[])
      rw [hWF] at hrest
      obtain ⟨hBF, hbl⟩ := hrest
      clear hWF
      have hw4 : w.heap.size ≤ W4.heap.size := by omega
      have hmv : ∀ j, W4.heap.size ≤ j → j < wr.heap.size → WF.heap[j]? = wr.heap[j]? := fun j hj _ => hbl j (by omega)
      refine bodyPost_ret (v := .agg #[.slice A1 a.cls.length k1, .slice A2 a.next.length k2, .slice A3 a.marks.length k3, .slice B1 b.cls.length m1, .slice B2 b.next.length m2, .slice B3 b.marks.length m3, .slice a1 cc.length n1, .slice a2 cc.length n2, .slice a3 cc.length n3, .func (.func fn) #[] #[]]) (by simp [results, Tryz.results48, go_sem, u0, u1, u2, u3, u4, u5, u6, u7, u8, u9]) rfl
        ⟨.slice a1 cc.length n1, .slice a2 cc.length n2, .slice a3 cc.length n3, rfl, ?_, ?_, ?_, ?_⟩
      · rw [hall]; simpa using ((HO1.out.step hmv).lower hw4).mono fun b hb => Nat.le_trans hw4 hb
      · rw [hall]; simpa using ((HO2.out.step hmv).lower hw4).mono fun b hb => Nat.le_trans hw4 hb
      · rw [hall]; simpa using ((HO3.out.step hmv).lower hw4).mono fun b hb => Nat.le_trans hw4 hb
      · exact hBf.trans (hBF _ (by omega))
end Go.Proofs
