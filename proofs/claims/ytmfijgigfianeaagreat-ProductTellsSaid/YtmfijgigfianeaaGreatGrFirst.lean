/- product.First: the search walked. The product of right automata is right. product: First whole, Empty, parts, Within, Equal, Name. product: parts, Within, Equal, Name. -/
import Derived.Test.YtmfijgigfianeaaGreatGrRef
import Derived.Test.YtmfijgigfianeaaGreatGrRev
import Derived.WalkMore
section
set_option linter.unusedVariables false
set_option linter.unusedSimpArgs false
namespace Go.Proofs
open Go.RowKit Go.Shelf Rp Go.Maps
attribute [local go_sem] Oper.semAt_some
abbrev intsOf (l : List Nat) : List Int := l.map fun (t : Nat) => (t : Int)
/-- The three rows of the search. -/
structure FP (B n : Nat) (fr : List Int) (bys : List UInt8) (todo : List Nat) (v7 : Value) (w1 wr : World) : Prop where
  of : OwnS Kint 3 wr B (fun b => b = B) (.slice (some ⟨B, 0, none⟩) n n) fr
  ob : OwnS Kbyte 5 wr B (fun b => b = B + 1) (.slice (some ⟨B + 1, 0, none⟩) n n) bys
  ot : OwnS Kint 3 wr B (fun b => B + 1 < b) v7 (intsOf todo)
  bl : Below B w1 wr
section
variable {B n : Nat} {fr : List Int} {bys : List UInt8} {todo : List Nat} {v7 v7' : Value} {w1 wr wr' : World}
theorem FP.ext (h : FP B n fr bys todo v7 w1 wr) (hb : Below wr.heap.size wr wr') (hB : B ≤ wr.heap.size) : FP B n fr bys todo v7 w1 wr' :=
  ⟨h.of.step fun b _ hl => hb.block b hl, h.ob.step fun b _ hl => hb.block b hl, h.ot.step fun b _ hl => hb.block b hl, h.bl.trans (hb.mono hB)⟩
theorem FP.own7 (h : FP B n fr bys todo v7 w1 wr) : v7.ownBlock ≠ some B ∧ v7.ownBlock ≠ some (B + 1) := by
  constructor <;> intro e <;> have := h.ot.1 _ e <;> omega
theorem FP.setF (h : FP B n fr bys todo v7 w1 wr) {i : Nat} (hi : i < fr.length) {x : Int} (hx : inI64 x) : FP B n (fr.set i x) bys todo v7 w1 (wr.setCell ⟨B, i, none⟩ (.int .i64 x)) := by
  have hm := Mov.own_set wr B i (.int .i64 x)
  exact ⟨h.of.set (enc := Value.int .i64) hi hx, h.ob.mov flatSc hm (.inr (by simp [Value.ownBlock])), h.ot.mov flatSc hm (.inr h.own7.1), h.bl.setCell (Nat.le_refl _) _⟩
theorem FP.setB (h : FP B n fr bys todo v7 w1 wr) {i : Nat} (hi : i < bys.length) {x : UInt8} : FP B n fr (bys.set i x) todo v7 w1 (wr.setCell ⟨B + 1, i, none⟩ (byteV x)) := by
  have hm := Mov.own_set wr (B + 1) i (byteV x)
  exact ⟨h.of.mov flatSc hm (.inr (by simp [Value.ownBlock])), h.ob.set (enc := byteV) hi trivial, h.ot.mov flatSc hm (.inr h.own7.2), h.bl.setCell (Nat.le_succ _) _⟩
theorem FP.push (h : FP B n fr bys todo v7 w1 wr) {t : Nat} (hB : B ≤ wr.heap.size) (hO : OwnS Kint 3 wr' B (fun b => B + 1 < b) v7' (intsOf todo ++ [(t : Int)])) (hM : Mov wr wr' v7.ownBlock v7'.ownBlock) : FP B n fr bys (todo ++ [t]) v7' w1 wr' := by
  obtain ⟨a1, a2⟩ := h.own7
  refine ⟨h.of.mov flatSc hM (.inr (fun e => a1 e.symm)), h.ob.mov flatSc hM (.inr (fun e => a2 e.symm)), by simpa [intsOf] using hO, Mov.below h.bl hM hB fun k hk => by have := h.ot.1 k hk; omega⟩
end
set_option maxRecDepth 100000 in
set_option maxHeartbeats 1600000 in
theorem c_pFirst (A1 A2 A3 : Option Addr) (k1 k2 k3 : Nat) (d : Dfa) (F : Nat → Prop) (w : World) (hq : DfaQ w F A1 k1 A2 k2 A3 k3 d) (hr : rightB d = true) :
    Calls Tryz.prog 26 #[.agg #[.slice A1 d.cls.length k1, .slice A2 d.next.length k2, .slice A3 d.marks.length k3]] w
      fun e w' => ∃ r v, FirstOf d r ∧ e = .returned (.tuple #[v, .bool r.isSome, .int .i64 0]) ∧ OwnS Kbyte 5 w' w.heap.size (fun b => w.heap.size ≤ b) v (r.getD []) ∧ Below w.heap.size w w' := by
  have hra := fun W' (hW' : Below w.heap.size w W') => (hq.below hW').right
  rw [hr] at hra
  go_enter Tryz.func26, Tryz.ntmps26
  go_wp2_with fail
  refine wp_name fun W0 hW0 => ?_
  have q0 : W0.heap[w.heap.size]? = some (.cells #[.slice A1 d.cls.length k1, .slice A2 d.next.length k2, .slice A3 d.marks.length k3] 25 (0, 0)) := by
    rw [← hW0]; exact World.alloc_heap_new w _
  have hE0 : Ext w W0 := by rw [← hW0]; exact (Ext.refl _).alloc _
  have hz0 : W0.heap.size = w.heap.size + 1 := by rw [← hW0]; simp
  clear hW0
  obtain ⟨b0, b1, b2⟩ := cells3 q0
  have hn := right_len hr
  have HQ0 := Lib.hid q0
  have hmi := run_make1 (P := Tryz.prog) 36 3 (.int .i64 0) 8 d.next.length Tryz.underlying36 info_int rfl (by omega) (by omega)
  have hmb := run_make1 (P := Tryz.prog) 47 5 (.int .u8 0) 1 d.next.length Tryz.underlying47 info_u8 rfl (by omega) (by omega)
  clear q0
  go_step3
  have hn0 := hn.1
  have hn1 := hn.2.1
  have HML := Lib.hid hn.2.2
  clear hn
  go_wp2_with fail
  refine (hra W0 hE0.below).mono ?_
  rintro e w1 ⟨rfl, hB1⟩
  have hq1 := (hB1.block _ (by omega)).trans HQ0.out
  have hBw := hE0.below.trans (hB1.mono hE0.size)
  have hz1 : w.heap.size < w1.heap.size := by have := hB1.size; omega
  obtain ⟨c0, c1, c2⟩ := cells3 hq1
  have HQ1 := Lib.hid hq1
  clear hq1 hra b0 b1 b2 hE0 hz0
  go_upto_region 6 with (fail)
  refine wp_name fun W2 hW2 => ?_
  have hE2 : Below w1.heap.size w1 W2 := by rw [← hW2]; exact (((Below.refl _ w1).alloc (Nat.le_refl _) _).alloc (by simp <;> omega) _).alloc (by simp <;> omega) _
  have hz2 : W2.heap.size = w1.heap.size + 3 := by rw [← hW2]; simp
  have hFP0 : FP w1.heap.size d.next.length (List.replicate d.next.length 0) (List.replicate d.next.length 0) [0] (.slice (some ⟨w1.heap.size + 1 + 1, 0, none⟩) 1 1) w1 W2 := by
    rw [← hW2]
    have o1 := OwnS.made (enc := Value.int .i64) (ok := inI64) (h1 := fun _ => rfl) w1 3 w1.heap.size d.next.length (fun b => b = w1.heap.size) 0 (by constructor <;> omega) (Nat.le_refl _) rfl (by omega)
    have o2 := OwnS.made (enc := byteV) (ok := fun _ => True) (h1 := fun _ => rfl) (w1.alloc (.cells (madeCells #[.int .i64 0] d.next.length) 3)) 5 w1.heap.size d.next.length (fun b => b = w1.heap.size + 1) 0 trivial (by simp) (by simp) (by omega)
    have o3 := OwnS.box Kint 3 ((w1.alloc (.cells (madeCells #[.int .i64 0] d.next.length) 3)).alloc (.cells (madeCells #[.int .u8 0] d.next.length) 5)) [.int .i64 0] 0 w1.heap.size (fun b => w1.heap.size + 1 < b) (by simp <;> omega) (by simp <;> omega) ⟨rfl, by constructor <;> omega⟩
    simp only [World.size_alloc] at o2 o3
    exact ⟨(o1.alloc _).alloc _, o2.alloc _, o3, (((Below.refl _ w1).alloc (Nat.le_refl _) _).alloc (by simp <;> omega) _).alloc (by simp <;> omega) _⟩
  have hFP1 := hFP0.setF (i := 0) (by simp; omega) (x := -1) (by constructor <;> omega)
  obtain ⟨f0, f1, f2, _, _, _⟩ := hFP0.of.at1 (i := 0) (x := 0) (by rw [List.getElem?_replicate, if_pos (by omega)])
  have f1' := f1 0
  have HFP1 := Lib.hid hFP1
  have hB2 := hBw.trans (hE2.mono hBw.size)
  have hn0' : (0 : Int) < d.next.length := by omega
  have HZ2 := Lib.hid hz2
  clear hW2 hFP0 hFP1 hmi hmb c0 c1 c2 hz2 f1
  go_wp2
  refine wp_name fun W3 hW3 => ?_
  rw [hW3] at HFP1
  have hB3 : Below w.heap.size w W3 := by rw [← hW3]; exact hB2.setCell (by simp; omega) _
  have hz3 : w1.heap.size + 3 = W3.heap.size := by rw [← hW3]; simp [HZ2.out]
  have hz3' : w1.heap.size + 3 ≤ W3.heap.size := by omega
  clear hW3 f0 hz3
  go_step3
  go_wp2
  go_loopg [7, 8, 9] (d.next.length + 1) (fun gk v7 v8 v9 wr => ∃ (i : Nat) (fr : List Int) (bys : List UInt8) (todo : List Nat) (Wd : Nat → List UInt8), v9 = .int .i64 (i : Int) ∧ v8 = .int .i64 (-1) ∧ i ≤ todo.length ∧ gk + i = d.next.length + 1 ∧ Bfs d i 0 fr bys todo Wd ∧ FP w1.heap.size d.next.length fr bys todo v7 w1 wr ∧ w1.heap.size + 3 ≤ wr.heap.size)
  case atStart => exact ⟨0, _, _, [0], _, rfl, rfl, by simp, by omega, Bfs.start hr, HFP1.out, hz3'⟩
  case round =>
    obtain ⟨i, fr, bys, todo, Wd, rfl, rfl, hi, hgk, hBfs, hFP, hzr⟩ := hrel
    have HG := Lib.hid hgk
    clear hgk
    have hBr : Below w.heap.size w wr := hBw.trans (hFP.bl.mono hBw.size)
    have hqr := (hFP.bl.block _ hz1).trans HQ1.out
    obtain ⟨c0, c1, c2⟩ := cells3 hqr
    have HQr := Lib.hid hqr
    clear hqr
    have hlen := hBfs.len
    obtain ⟨gA, gc, hv7, ha1, ha2, _⟩ := hFP.ot.reads
    have hil : (intsOf todo).length = todo.length := by simp
    rw [hil] at hv7 ha1
    clear hil
    by_cases hlt : i < todo.length
    · have hlt' : (i : Int) < todo.length := by omega
      have hi0 : (0 : Int) ≤ i := by omega
      obtain ⟨g7, c7, hv7'⟩ := hFP.ot.form (by intro e; rw [List.map_eq_nil_iff] at e; rw [e] at hlt; simp at hlt)
      have hil : (intsOf todo).length = todo.length := by simp
      rw [hil] at hv7'
      subst hv7'
      have ht7 : todo[i]? = some todo[i] := List.getElem?_eq_getElem hlt
      obtain ⟨e7, _, _, _, _, _⟩ := hFP.ot.at1 (i := i) (x := (todo[i] : Int)) (by simp [hlt])
      have hsn := hBfs.lt _ (List.getElem_mem hlt)
      generalize todo[i] = s at *
      have hS3 := hq.s3.bound.step (w1 := wr) fun b _ hl => hBr.block b hl
      have hS2 := hq.s2.bound.step (w1 := wr) fun b _ hl => hBr.block b hl
      have hS1 := hq.s1.bound.step (w1 := wr) fun b _ hl => hBr.block b hl
      have hsm : s < d.marks.length := by rw [HML.out]; exact hsn
      obtain ⟨b3, o3, B3, cp3, rfl, _, hb3, p3, hl3, hm3, _⟩ := S_slice hS3 hsm
      obtain ⟨b2, o2, B2, cp2, rfl, _, hb2, p2, hl2, hm2, hS2'⟩ := S_slice hS2 hsn
      have hs0 : (0 : Int) ≤ s := by omega
      have hs1 : (s : Int) < d.marks.length := by omega
      have hs2 : (s : Int) < d.next.length := by omega
      have hacc : accB d s = decide (0 < d.marks[s].length) := by simp [accB, List.getD_eq_getElem?_getD, List.getElem?_eq_getElem hsm]
      obtain ⟨hrl, hrr⟩ := right_row hr hsn
      generalize d.marks[s] = ms at *
      by_cases hac : 0 < ms.length
      · have ha : accB d s = true := by rw [hacc]; simpa using hac
        have hfound := hBfs.found hr ht7 ha
        have hsh := hBfs.short i s ht7
        have hsm7 : s ∈ todo := List.mem_of_getElem? ht7
        have HFO := Lib.hid hfound
        have HB := Lib.hid hBfs
        have HFP := Lib.hid hFP
        have HT7 := Lib.hid ht7
        have hac' : (0 : Int) < ms.length := by omega
        have hs8 : ¬ (s : Int) < 0 := by omega
        clear hfound hBfs ht7 hacc ha
        obtain ⟨wo, rfl⟩ : ∃ wo : World, wo = wr := ⟨_, rfl⟩
        obtain ⟨go0, rfl⟩ : ∃ x : Nat, x = gk := ⟨_, rfl⟩
        go_wp2
        go_loopg [13, 14] ((Wd s).length + 1) (fun gk v13 v14 wr => ∃ (u : Nat) (out : List UInt8), v14 = .int .i64 (u : Int) ∧ u ∈ todo ∧ Wd s = Wd u ++ out.reverse ∧ gk = (Wd u).length + 1 ∧ Below wo.heap.size wo wr ∧ OwnS Kbyte 5 wr wo.heap.size (fun b => wo.heap.size ≤ b) v13 out)
        case atStart => exact ⟨s, [], rfl, hsm7, by simp, rfl, Below.refl _ _, OwnS.nil _ _ _ _ _⟩
        case round =>
          obtain ⟨u, out, rfl, hu, hW, hgk, hB, hO⟩ := hrel
          have HGk := Lib.hid hgk
          have HW := Lib.hid hW
          have hol : out.length ≤ 4000 := by have := congrArg List.length hW; simp at this; omega
          clear hgk hW
          have hun := HB.out.lt u hu
          have hu0 : (0 : Int) ≤ u := by omega
          have hu1 : (u : Int) < d.next.length := by omega
          have hof := HFP.out.of.below hB
          have hob := HFP.out.ob.below hB
          have hfl := HB.out.lf
          have hbl := HB.out.lb
          obtain ⟨A13, k13, rfl, _, _, _⟩ := hO.reads
          by_cases h0 : u = 0
          · subst h0
            have hfu : fr[0]? = some (-1) := by
              have h1 := HB.out.fr0
              rw [List.getD_eq_getElem?_getD] at h1
              have h2 : fr[0]? = some fr[0] := List.getElem?_eq_getElem (by omega)
              rw [h2] at h1 ⊢; exact congrArg some h1
            obtain ⟨eu, _, _, _, _, _⟩ := hof.at1 hfu
            have HO := Lib.hid hO
            have hrev := c_reverse _ out _ _ wr HO.out (by omega)
            clear hfl hbl hfu hof hob hO
            go_wp2_with (go_at_call 54; refine hrev.mono ?_; rintro e w9 ⟨rfl, hO9, hM9⟩)
            rw [Exit.noGoto_ret]
            go_ret3
            have hWs : out.reverse = Wd s := by rw [HW.out, HB.out.w0]; rfl
            rw [hWs] at hO9
            exact ⟨some (Wd s), _, HFO.out, rfl, (hO9.lower hBr.size).mono fun b hb => Nat.le_trans hBr.size hb, Mov.below (hBr.trans (hB.mono hBr.size)) hM9 (Nat.le_trans hBr.size hB.size) fun k hk => Nat.le_trans hBr.size (HO.out.1 k hk)⟩
          · obtain ⟨p, a1, a2, a3⟩ := HB.out.par u hu h0
            have hfu : fr[u]? = some ((p : Int) + 1) := by
              rw [List.getD_eq_getElem?_getD] at a1
              have h2 : fr[u]? = some fr[u] := List.getElem?_eq_getElem (by omega)
              rw [h2] at a1 ⊢; exact congrArg some a1
            have hbu : bys[u]? = some (bys.getD u 0) := by
              rw [List.getD_eq_getElem?_getD]
              have h2 : bys[u]? = some bys[u] := List.getElem?_eq_getElem (by omega)
              rw [h2]; rfl
            obtain ⟨eu, _, _, _, _, _⟩ := hof.at1 hfu
            obtain ⟨eb, _, _, _, _, _⟩ := hob.at1 hbu
            have hpn := HB.out.lt p a2
            have hp0 : (0 : Int) ≤ p := by omega
            have hp1 : (p : Int) + 1 ≤ 4000 := by omega
            have hp2 : (0 : Int) < (p : Int) + 1 := by omega
            have HO := Lib.hid hO
            have HA3 := Lib.hid a3
            generalize bys.getD u 0 = bu at *
            clear hfl hbl hfu hbu hof hob hO a1 a3
            go_wp2_with (at_builtin; refine own_append Kbyte wr wo.heap.size wr.heap.size rfl _ _ 47 5 (.int .u8 0) 1 rfl Tryz.underlying47 info_u8 rfl (by decide) (by decide) (.slice A13 out.length k13) out bu [byteV bu] (fun b => wo.heap.size ≤ b) rfl rfl rfl ⟨rfl, trivial⟩ HO.out (fun k hk => Nat.le_trans hB.size hk) hB.size (by omega) ?_; intro v9 w9 hO9 hM9 hv9; have eu9 := Mov.cell hM9 eu (fun e => by have := HO.out.1 _ e.symm; omega))
            go_roundg (gk - 1)
            case measure => have := HGk.out; omega
            case rel => exact ⟨p, out ++ [bu], by go_num, a2, by rw [HW.out, HA3.out]; simp, by have h1 := HGk.out; have h2 := congrArg List.length HA3.out; simp at h2; omega, Mov.below hB hM9 hB.size (fun k hk => HO.out.1 k hk), hO9⟩
      · have ha : accB d s = false := by rw [hacc]; simpa using hac
        have hac' : ¬ (0 : Int) < ms.length := by omega
        have hac2 : ¬ ((ms.length : Int) > 0) := by omega
        have HT7 := Lib.hid ht7
        have HA := Lib.hid ha
        have HFP := Lib.hid hFP
        have HB := Lib.hid hBfs
        have HRr := Lib.hid hrr
        have HRl := Lib.hid hrl
        have HS1 := Lib.hid hS1
        have HS2 := Lib.hid hS2'
        clear hacc ha ht7 hBfs hFP hrr hrl hS1 hS2' hS2 hS3
        obtain ⟨wo, rfl⟩ : ∃ wo : World, wo = wr := ⟨_, rfl⟩
        obtain ⟨go0, rfl⟩ : ∃ x : Nat, x = gk := ⟨_, rfl⟩
        go_wp2
        go_loopg [7, 53] (d.cls.length + 1) (fun gk v7 vk wr => ∃ (k : Nat) (fr : List Int) (bys : List UInt8) (t2 : List Nat) (Wd : Nat → List UInt8), vk = .int .i64 (k : Int) ∧ k ≤ d.cls.length ∧ gk + k = d.cls.length + 1 ∧ Bfs d i k fr bys t2 Wd ∧ t2[i]? = some s ∧ FP w1.heap.size d.next.length fr bys t2 v7 w1 wr ∧ wo.heap.size ≤ wr.heap.size)
        case atStart => exact ⟨0, fr, bys, todo, Wd, rfl, Nat.zero_le _, by omega, HB.out, HT7.out, HFP.out, Nat.le_refl _⟩
        case round =>
          obtain ⟨k, fr, bys, t2, Wd, rfl, hk, hgk, hBfs, hti, hFP, hzo⟩ := hrel
          have HGk := Lib.hid hgk
          clear hgk
          have hil2 := (List.getElem?_eq_some_iff.1 hti).1
          obtain ⟨g8, c8, hv8⟩ := hFP.ot.form (by intro e; rw [List.map_eq_nil_iff] at e; rw [e] at hil2; simp at hil2)
          have hil : (intsOf t2).length = t2.length := by simp
          rw [hil] at hv8
          subst hv8
          clear hil
          by_cases hkl : k < d.cls.length
          · have hBr2 : Below w.heap.size w wr := hBw.trans (hFP.bl.mono hBw.size)
            have hk0 : (0 : Int) ≤ k := by omega
            have hk1 : (k : Int) < d.next[s].length := by rw [HRl.out]; omega
            have hk2 : (k : Int) < d.cls.length := by omega
            have hS2r := HS2.out.step (w1 := wr) fun b hb _ => (hFP.bl.block b (by omega)).trans (HFP.out.bl.block b (by omega)).symm
            have hkr : k < d.next[s].length := by rw [HRl.out]; exact hkl
            obtain ⟨b4, o4, rfl, _, hb4, e4, _⟩ := S_int hS2r hkr
            have hS1r := hq.s1.bound.step (w1 := wr) fun b _ hl => hBr2.block b hl
            obtain ⟨b5, o5, rfl, hF5, hb5, e50, e51, e52, e53⟩ := S_set hS1r hkl
            have hrng := HRr.out _ (List.getElem_mem hkr)
            obtain ⟨t, ht⟩ : ∃ t : Nat, d.next[s][k] = (t : Int) := ⟨(d.next[s][k]).toNat, by omega⟩
            rw [ht] at e4 hrng
            have htn : t < d.next.length := by omega
            have hkt : ∀ c : UInt8, clsOf d.cls c.toNat = k → dlt d s c.toNat = t := fun c hc => by
              unfold dlt
              rw [hc]
              simp [List.getD_eq_getElem?_getD, List.getElem?_eq_getElem hsn, List.getElem?_eq_getElem hkr, ht]
            have ht0 : (0 : Int) ≤ t := by omega
            have ht1 : (t : Int) < d.next.length := by omega
            have htl : t < fr.length := by rw [hBfs.lf]; exact htn
            have hbl : t < bys.length := by rw [hBfs.lb]; exact htn
            obtain ⟨z, hz⟩ : ∃ z, fr[t]? = some z := ⟨_, List.getElem?_eq_getElem htl⟩
            have hzd : fr.getD t 0 = z := by rw [List.getD_eq_getElem?_getD, hz]; rfl
            obtain ⟨ef, hff, hfg, _, _, _⟩ := hFP.of.at1 hz
            have hff0 := hff t
            have HKT := Lib.hid hkt
            have HTi := Lib.hid hti
            have ht2l := hBfs.len
            have hcl : (firstB d.cls[k]).1.toNat < 256 := first_lt _
            clear hS2r hS1r ht hkt hti hrng hff
            by_cases hz0 : z = 0
            · subst hz0
              have hfp1 := hFP.setF (i := t) htl (x := (s : Int) + 1) (by constructor <;> omega)
              have hnew := Lib.hid (hBfs.new hr HTi.out hkl htn HKT.out hzd)
              have HF1 := Lib.hid hfp1
              have hs1k : (s : Int) + 1 ≤ 4001 := by omega
              have hbt : bys[t]? = some bys[t] := List.getElem?_eq_getElem hbl
              have hx0 : (0 : Int) = 0 := rfl
              have hw1B : w1.heap.size + 1 < wr.heap.size := by omega
              have hb5' : b5 < w1.heap.size := by have := hF5.2; omega
              obtain ⟨c0r, _, _⟩ := cells3 ((hFP.bl.block _ hz1).trans HQ1.out)
              clear hfp1 hz hzd hBfs hFP hx0
              generalize d.cls[k] = ck at *
              generalize bys[t] = b0 at *
              go_wp2_with (first
                | (go_at_call 53; refine (c_first ck _).mono ?_; rintro e w8 ⟨rfl, hE8⟩; have HF8 := Lib.hid (HF1.out.ext hE8.below (by simp; omega)); obtain ⟨eb8, hfb8, hgb8, _, _, _⟩ := HF8.out.ob.at1 hbt; have hfb8' := hfb8 t; have hz8 := hE8.size; simp only [World.size_setCell] at hz8; clear hfb8; have HF9 := Lib.hid (HF8.out.setB hbl (x := (firstB ck).1)))
                | (at_builtin; refine own_append Kint (w8.setCell ⟨w1.heap.size + 1, t, none⟩ (byteV (firstB ck).1)) w1.heap.size w8.heap.size rfl _ _ 36 3 (.int .i64 0) 8 rfl Tryz.underlying36 info_int rfl (by decide) (by decide) (.slice (some ⟨g8, 0, none⟩) t2.length c8) (intsOf t2) (t : Int) [.int .i64 (t : Int)] (fun b => w1.heap.size + 1 < b) rfl rfl (by simp) ⟨rfl, by constructor <;> omega⟩ HF9.out.ot (fun k' hk' => by simp at hk'; omega) (by simp; omega) (by simp; omega) ?_; intro v9 w9 hO9 hM9 hv9))
              have HF10 := HF9.out.push (by simp; omega) hO9 hM9
              have hz9 := hM9.size
              simp only [World.size_setCell] at hz9
              go_roundg (gk - 1)
              case measure => have := HGk.out; omega
              case rel => exact ⟨k + 1, _, _, t2 ++ [t], _, by go_num, by omega, by have := HGk.out; omega, hnew.out, by rw [List.getElem?_append_left hil2]; exact HTi.out, HF10, by omega⟩
            · have hzf : (z == 0) = false := by simpa using hz0
              have hold := hBfs.old hr HTi.out hkl htn HKT.out (by rw [hzd]; exact hz0)
              have HOLD := Lib.hid hold
              have HFP2 := Lib.hid hFP
              clear hold hz hzd hBfs hz0
              go_wp2
              go_roundg (gk - 1)
              case measure => have := HGk.out; omega
              case rel => exact ⟨k + 1, fr, bys, t2, Wd, by go_num, by omega, by have := HGk.out; omega, HOLD.out, HTi.out, HFP2.out, hzo⟩
          · obtain rfl : k = d.cls.length := by omega
            have hrnd := hBfs.round hr hti HA.out
            have HRND := Lib.hid hrnd
            have hge : ¬ ((d.cls.length : Int) < d.next[s].length) := by rw [HRl.out]; omega
            have hil3 : i < t2.length := hil2
            clear hrnd hBfs
            go_wp2
            go_roundg (go0 - 1)
            case measure => have := HG.out; have := hFP.ot; omega
            case rel => exact ⟨i + 1, fr, bys, t2, Wd, by go_num, rfl, by omega, by have := HG.out; omega, HRND.out, hFP, by omega⟩
    · obtain rfl : i = todo.length := by omega
      subst hv7
      have hfirst := hBfs.none hr (Nat.le_refl _)
      have hge : ¬ ((todo.length : Int) < todo.length) := by omega
      have HFO := Lib.hid hfirst
      clear hfirst hBfs
      go_wp2
      go_ret3
      exact ⟨none, _, HFO.out, rfl, OwnS.nil _ _ _ _ _, hBr⟩
end Go.Proofs
end

section
set_option linter.unusedVariables false
set_option linter.unusedSimpArgs false
namespace Rp
open Go.Proofs Go.Shelf
theorem same_parts (l : List BSet) (c d : Nat) (hc : c < 256) (hd : d < 256) : sameB (partsB l) c d = sameB l c d := by
  rw [Bool.eq_iff_iff, sameB_iff]
  constructor
  · intro h
    have hm : setTo (fun e => sameB l c e) 256 ∈ partsB l := parts_mem.2 ⟨c, hc, fun e he => by rw [setTo_bit _ _ he]; simp [he]⟩
    have := h _ hm
    rw [setTo_bit _ _ hc, setTo_bit _ _ hd, sameB_refl] at this
    simp [hc, hd] at this
    exact this
  · intro h s hs
    obtain ⟨e, he, hse⟩ := parts_mem.1 hs
    rw [hse c hc, hse d hd, Bool.eq_iff_iff]
    exact ⟨fun k => sameB_trans k h, fun k => sameB_trans k (sameB_symm h)⟩
theorem parts_idem (l : List BSet) : partsB (partsB l) = partsB l := by
  refine rise_ext (parts_rise _) (parts_rise l) fun q => ?_
  rw [parts_mem, parts_mem]
  constructor
  · rintro ⟨c, hc, h⟩; exact ⟨c, hc, fun d hd => by rw [h d hd, same_parts l c d hc hd]⟩
  · rintro ⟨c, hc, h⟩; exact ⟨c, hc, fun d hd => by rw [h d hd, same_parts l c d hc hd]⟩
theorem inStep_rng {fuel : Nat} {st st' : List PP × List Int} {q : PP} (h : inStep fuel st q = some st') (hr : ∀ t ∈ st.2, 0 ≤ t ∧ t < (st.1.length : Int)) : (∀ t ∈ st'.2, 0 ≤ t ∧ t < (st'.1.length : Int)) ∧ st.1.length ≤ st'.1.length := by
  unfold inStep at h
  split at h
  · split at h
    · cases h
    · cases h
      refine ⟨fun t ht => ?_, by simp⟩
      rcases List.mem_append.1 ht with ht | ht
      · have := hr t ht; simp; omega
      · rw [List.mem_singleton.1 ht]; simp; omega
  · rename_i hne
    cases h
    refine ⟨fun t ht => ?_, Nat.le_refl _⟩
    rcases List.mem_append.1 ht with ht | ht
    · exact hr t ht
    · rw [List.mem_singleton.1 ht]
      have := List.idxOf_le_length (l := st.1) (a := q)
      dsimp only; omega
theorem inAll_rng {fuel : Nat} : ∀ (qs : List PP) {st st' : List PP × List Int}, inAll fuel qs st = some st' → (∀ t ∈ st.2, 0 ≤ t ∧ t < (st.1.length : Int)) → ∀ t ∈ st'.2, 0 ≤ t ∧ t < (st'.1.length : Int)
  | [], st, st', h, hr => by simp only [inAll, Option.some.injEq] at h; subst h; exact hr
  | q :: r, st, st', h, hr => by
    unfold inAll at h
    cases hs : inStep fuel st q with
    | none => rw [hs] at h; cases h
    | some s1 =>
      rw [hs] at h
      exact inAll_rng r h (inStep_rng hs hr).1
/-- What holds all along. -/
structure OutI (cls : List BSet) (fuel : Nat) (st : OutS) : Prop where
  tl : st.todo.length ≤ fuel
  nt : st.next.length ≤ st.todo.length
  mn : st.marks.length = st.next.length
  t1 : 1 ≤ st.todo.length
  row : ∀ r ∈ st.next, r.length = cls.length ∧ ∀ t ∈ r, 0 ≤ t ∧ t < (st.todo.length : Int)
  mks : ∀ m ∈ st.marks, m = [] ∨ m = [0]
theorem OutI.step {a b : Dfa} {op fuel : Nat} {cls : List BSet} {st st' : OutS} (h : OutI cls fuel st) (hlt : st.next.length < st.todo.length) (hs : outStep a b op fuel cls st = some st') : OutI cls fuel st' ∧ st'.next.length = st.next.length + 1 := by
  unfold outStep at hs
  cases hi : inAll fuel (cls.map (nxtP a b (st.todo.getD st.next.length (0, 0)))) (st.todo, []) with
  | none => rw [hi] at hs; cases hs
  | some p =>
    obtain ⟨t2, nx⟩ := p
    rw [hi] at hs
    simp only [Option.some.injEq] at hs
    subst hs
    have hl := inAll_len _ hi h.tl
    have hr := inAll_rng _ hi (by simp)
    dsimp only at hl hr ⊢
    refine ⟨⟨hl.1, ?_, ?_, Nat.le_trans h.t1 hl.2.1, ?_, ?_⟩, by simp⟩
    · simp; omega
    · simp [h.mn]
    · intro r hr2
      rcases List.mem_append.1 hr2 with h2 | h2
      · obtain ⟨a1, a2⟩ := h.row r h2
        exact ⟨a1, fun t ht => by have := a2 t ht; dsimp only; omega⟩
      · rw [List.mem_singleton.1 h2]
        exact ⟨by have := hl.2.2; simpa using this, hr⟩
    · intro m hm
      rcases List.mem_append.1 hm with h2 | h2
      · exact h.mks m h2
      · rw [List.mem_singleton.1 h2]; unfold markP; split <;> simp
theorem outRun_end {a b : Dfa} {op fuel : Nat} {cls : List BSet} : ∀ (g : Nat) {st st' : OutS}, OutI cls fuel st → g + st.next.length = fuel + 1 → outRun a b op fuel cls g st = some st' → OutI cls fuel st' ∧ st'.next.length = st'.todo.length
  | 0, st, st', hI, hg, h => by have := hI.tl; have := hI.nt; omega
  | g + 1, st, st', hI, hg, h => by
    unfold outRun at h
    split at h
    · rename_i hlt
      cases hs : outStep a b op fuel cls st with
      | none => rw [hs] at h; cases h
      | some s1 =>
        rw [hs] at h
        obtain ⟨h1, h2⟩ := hI.step hlt hs
        exact outRun_end g h1 (by omega) h
    · rename_i hlt
      simp only [Option.some.injEq] at h
      subst h
      exact ⟨hI, by have := hI.nt; omega⟩
theorem prod_right {a b : Dfa} {op fuel : Nat} {d : Dfa} (hf : 0 < fuel) (hf2 : fuel ≤ 4000) (h : prodB a b op fuel = some d) : rightB d = true := by
  unfold prodB at h
  cases ho : outRun a b op fuel (allB a b) (fuel + 1) ⟨[(0, 0)], [], []⟩ with
  | none => rw [ho] at h; cases h
  | some st =>
    rw [ho] at h
    simp only [Option.map_some, Option.some.injEq] at h
    subst h
    obtain ⟨hI, he⟩ := outRun_end (fuel + 1) ⟨by simp; omega, by simp, rfl, by simp, by simp, by simp⟩ (by simp) ho
    have hpart : partsB (allB a b) = allB a b := by unfold allB; exact parts_idem _
    have h1 := hI.t1
    have h2 := hI.tl
    have h3 := hI.mn
    simp only [rightB, Bool.and_eq_true, decide_eq_true_eq, List.all_eq_true, List.mem_range]
    refine ⟨⟨⟨⟨by omega, by omega⟩, h3⟩, hpart⟩, fun s hs => ?_⟩
    have hsm : s < st.marks.length := by omega
    obtain ⟨r1, r2⟩ := hI.row _ (List.getElem_mem hs)
    have hm := hI.mks _ (List.getElem_mem hsm)
    simp only [stateB, List.getD_eq_getElem?_getD, List.getElem?_eq_getElem hs, List.getElem?_eq_getElem hsm, Option.getD_some, Bool.and_eq_true, decide_eq_true_eq, Bool.not_eq_true', List.any_eq_false]
    refine ⟨⟨r1, fun t ht => ?_⟩, ?_⟩
    · have := r2 t ht
      rw [he]
      simp [outB]; omega
    · rcases hm with e | e <;> rw [e] <;> decide
theorem ofB_right {a b : Dfa} {op : Nat} {fuel : Int} (h : (ofB a b op fuel).2 = 0) : rightB (ofB a b op fuel).1 = true := by
  unfold ofB at h ⊢
  split at h
  · cases h
  · rename_i c1
    rw [if_neg c1]
    split at h
    · cases h
    · rename_i c2
      rw [if_neg c2]
      split at h
      · cases h
      · rename_i c3
        rw [if_neg c3]
        split at h
        · cases h
        · rename_i c4
          rw [if_neg c4]
          cases hp : prodB a b op fuel.toNat with
          | none => rw [hp] at h; cases h
          | some d => exact prod_right (by omega) (by omega) hp
end Rp
end

section
set_option linter.unusedVariables false
set_option linter.unusedSimpArgs false
namespace Rp
open Go.Proofs
def FirstR (d : Dfa) (x : List UInt8 × Bool × Int) : Prop := if rightB d = true then ∃ r, FirstOf d r ∧ x = (r.getD [], r.isSome, 0) else x = ([], false, 182)
def PartsR (a b : Dfa) (op : Nat) (fuel : Int) (x : List UInt8 × Bool × Int) : Prop := if (ofB a b op fuel).2 = 0 then ∃ r, FirstOf (ofB a b op fuel).1 r ∧ x = (r.getD [], r.isNone, 0) else x = ([], false, (ofB a b op fuel).2)
theorem FirstR.unique {d : Dfa} {x y : List UInt8 × Bool × Int} (h : FirstR d x) (k : FirstR d y) : x = y := by
  unfold FirstR at h k
  by_cases c : rightB d = true
  · rw [if_pos c] at h k
    obtain ⟨r, h1, rfl⟩ := h
    obtain ⟨t, k1, rfl⟩ := k
    rw [h1.unique k1]
  · rw [if_neg c] at h k
    rw [h, k]
theorem PartsR.unique {a b : Dfa} {op : Nat} {fuel : Int} {x y : List UInt8 × Bool × Int} (h : PartsR a b op fuel x) (k : PartsR a b op fuel y) : x = y := by
  unfold PartsR at h k
  by_cases c : (ofB a b op fuel).2 = 0
  · rw [if_pos c] at h k
    obtain ⟨r, h1, rfl⟩ := h
    obtain ⟨t, k1, rfl⟩ := k
    rw [h1.unique k1]
  · rw [if_neg c] at h k
    rw [h, k]
end Rp
namespace Go.Proofs
open Go.RowKit Go.Shelf Rp Go.Maps
attribute [local go_sem] Oper.semAt_some
set_option maxRecDepth 100000 in
set_option maxHeartbeats 800000 in
theorem c_pFirst0 (A1 A2 A3 : Option Addr) (k1 k2 k3 : Nat) (d : Dfa) (F : Nat → Prop) (w : World) (hq : DfaQ w F A1 k1 A2 k2 A3 k3 d) (hr : rightB d = false) :
    Calls Tryz.prog 26 #[.agg #[.slice A1 d.cls.length k1, .slice A2 d.next.length k2, .slice A3 d.marks.length k3]] w
      fun e w' => e = .returned (.tuple #[.slice none 0 0, .bool false, .int .i64 182]) ∧ Below w.heap.size w w' := by
  have hra := fun W' (hW' : Below w.heap.size w W') => (hq.below hW').right
  rw [hr] at hra
  go_enter Tryz.func26, Tryz.ntmps26
  go_wp2_with fail
  refine wp_name fun W0 hW0 => ?_
  have q0 : W0.heap[w.heap.size]? = some (.cells #[.slice A1 d.cls.length k1, .slice A2 d.next.length k2, .slice A3 d.marks.length k3] 25 (0, 0)) := by
    rw [← hW0]; exact World.alloc_heap_new w _
  have hE0 : Ext w W0 := by rw [← hW0]; exact (Ext.refl _).alloc _
  clear hW0
  obtain ⟨b0, b1, b2⟩ := cells3 q0
  clear q0
  go_step3
  go_wp2_with fail
  refine (hra W0 hE0.below).mono ?_
  rintro e w1 ⟨rfl, hB1⟩
  have hBw := hE0.below.trans (hB1.mono hE0.size)
  clear hra b0 b1 b2
  go_wp2
  try rw [Exit.noGoto_ret]
  go_ret3
  exact ⟨rfl, hBw⟩
theorem c_pFirstA (h : DA) (d : Dfa) (F : Nat → Prop) (w : World) (hR : DfaR w F h d) :
    Calls Tryz.prog 26 #[dfaV h d] w fun e w' => ∃ bs v ok err, FirstR d (bs, ok, err) ∧ e = .returned (.tuple #[v, .bool ok, .int .i64 err]) ∧ OwnS Kbyte 5 w' w.heap.size (fun b => w.heap.size ≤ b) v bs ∧ Below w.heap.size w w' := by
  cases hr : rightB d with
  | true =>
    refine (c_pFirst _ _ _ _ _ _ d F w hR.q hr).mono ?_
    rintro e w' ⟨r, v, h1, rfl, h2, h3⟩
    exact ⟨_, v, _, _, by unfold FirstR; rw [if_pos hr]; exact ⟨r, h1, rfl⟩, rfl, h2, h3⟩
  | false =>
    refine (c_pFirst0 _ _ _ _ _ _ d F w hR.q hr).mono ?_
    rintro e w' ⟨rfl, h3⟩
    exact ⟨[], _, false, 182, by unfold FirstR; rw [if_neg (by rw [hr]; simp)], rfl, OwnS.nil _ _ _ _ _, h3⟩
set_option maxRecDepth 100000 in
set_option maxHeartbeats 800000 in
theorem c_empty (h : DA) (d : Dfa) (F : Nat → Prop) (w : World) (hR : DfaR w F h d) :
    Calls Tryz.prog 29 #[dfaV h d] w fun e w' => ∃ bs ok err, FirstR d (bs, ok, err) ∧ e = .returned (.tuple #[.bool (decide (err = 0) && !ok), .int .i64 err]) ∧ Below w.heap.size w w' := by
  have hc := fun W' (hW' : Below w.heap.size w W') => c_pFirstA h d F W' (hR.below hW')
  obtain ⟨A1, k1, A2, k2, A3, k3⟩ := h
  simp only [dfaV, dfaC] at hc ⊢
  go_enter Tryz.func29, Tryz.ntmps29
  go_wp2_with fail
  refine calls_name fun W0 hW0 => ?_
  have hE0 : Ext w W0 := by rw [← hW0]; exact (Ext.refl _).alloc _
  clear hW0
  refine (hc W0 hE0.below).mono ?_
  rintro e w1 ⟨bs, v, ok, err, hF, rfl, hO, hB⟩
  clear hc
  by_cases he : err = 0
  · have he' : (err == 0) = true := by simpa using he
    have he2 : decide (err = 0) = true := by simpa using he
    have HF := Lib.hid hF
    clear hF he
    go_wp2
    go_ret2
    exact ⟨bs, ok, err, HF.out, by simp [he2], hE0.below.trans (hB.mono hE0.size)⟩
  · have he' : (err == 0) = false := by simpa using he
    have he2 : decide (err = 0) = false := by simpa using he
    have HF := Lib.hid hF
    clear hF he
    go_wp2
    go_ret2
    exact ⟨bs, ok, err, HF.out, by simp [he2], hE0.below.trans (hB.mono hE0.size)⟩
end Go.Proofs
end

section
set_option linter.unusedVariables false
set_option linter.unusedSimpArgs false
namespace Go.Proofs
open Go.RowKit Go.Shelf Rp Go.Maps
attribute [local go_sem] Oper.semAt_some
set_option maxRecDepth 100000 in
set_option maxHeartbeats 1600000 in
theorem c_parts2 (ha hb : DA) (a b : Dfa) (op : Nat) (fuel : Int) (F G : Nat → Prop) (w : World) (hop : op < 256) (hra : DfaR w F ha a) (hrb : DfaR w G hb b) :
    Calls Tryz.prog 51 #[dfaV ha a, dfaV hb b, .int .u8 (op : Int), .int .i64 fuel] w
      fun e w' => ∃ bs v ok err, PartsR a b op fuel (bs, ok, err) ∧ e = .returned (.tuple #[v, .bool ok, .int .i64 err]) ∧ OwnS Kbyte 5 w' w.heap.size (fun b => w.heap.size ≤ b) v bs ∧ Below w.heap.size w w' := by
  have hc := fun W' (hW' : Below w.heap.size w W') => c_of ha hb a b op fuel F G W' hop (hra.below hW') (hrb.below hW')
  obtain ⟨A1, k1, A2, k2, A3, k3⟩ := ha
  obtain ⟨B1, m1, B2, m2, B3, m3⟩ := hb
  simp only [dfaV, dfaC] at hc ⊢
  go_enter Tryz.func51, Tryz.ntmps51
  go_wp2_with fail
  refine calls_name fun W0 hW0 => ?_
  have hE0 : Ext w W0 := by rw [← hW0]; exact ((Ext.refl _).alloc _).alloc _
  clear hW0
  refine (hc W0 hE0.below).mono ?_
  rintro e w1 ⟨h', rfl, hO, hB⟩
  clear hc
  have hB1 := hE0.below.trans (hB.mono hE0.size)
  have hof := Lib.hid (ofB_right (a := a) (b := b) (op := op) (fuel := fuel))
  have hP : ∀ x, PartsR a b op fuel x ↔ (if (ofB a b op fuel).2 = 0 then ∃ r, FirstOf (ofB a b op fuel).1 r ∧ x = (r.getD [], r.isNone, 0) else x = ([], false, (ofB a b op fuel).2)) := fun x => Iff.rfl
  generalize ofB a b op fuel = res at *
  obtain ⟨dd, err⟩ := res
  dsimp only at hof hP hO ⊢
  have HP := Lib.hid hP
  clear hP
  by_cases he : err = 0
  · subst he
    have hr := hof.out rfl
    have hread := hO.reads
    have hcf := fun W' (hW' : Below w1.heap.size w1 W') => c_pFirstA h' dd _ W' (hread.below hW')
    obtain ⟨D1, l1, D2, l2, D3, l3⟩ := h'
    simp only [dfaV, dfaC] at hcf ⊢
    clear hread hO hof
    go_wp2_with (go_at_call 26; refine (hcf _ ((Below.refl _ w1).alloc (Nat.le_refl _) _)).mono ?_; rintro e w2 ⟨bs, v, ok, er2, hF, rfl, hO2, hB2⟩)
    go_ret3
    unfold FirstR at hF
    rw [if_pos hr] at hF
    obtain ⟨r, hf, hx⟩ := hF
    simp only [Prod.mk.injEq] at hx
    obtain ⟨rfl, rfl, rfl⟩ := hx
    simp only [World.size_alloc] at hO2 hB2
    refine ⟨_, v, !r.isSome, 0, (HP.out _).2 (by rw [if_pos (by trivial)]; exact ⟨r, hf, by cases r <;> rfl⟩), rfl, (hO2.lower (by have := hB1.size; omega)).mono fun c hc => by have := hB1.size; omega, ?_⟩
    exact (hB1.alloc hB1.size _).trans (hB2.mono (by have := hB1.size; omega))
  · have hne : (err != 0) = true := by simpa using he
    have HE := Lib.hid he
    obtain ⟨D1, l1, D2, l2, D3, l3⟩ := h'
    simp only [dfaV, dfaC]
    clear he hO hof
    go_wp2
    go_ret3
    exact ⟨[], _, false, err, (HP.out _).2 (by rw [if_neg HE.out]), rfl, OwnS.nil _ _ _ _ _, hB1.alloc hB1.size _⟩

set_option maxRecDepth 100000 in
set_option maxHeartbeats 800000 in
theorem c_Within (ha hb : DA) (a b : Dfa) (fuel : Int) (F G : Nat → Prop) (w : World) (hra : DfaR w F ha a) (hrb : DfaR w G hb b) :
    Calls Tryz.prog 20 #[dfaV ha a, dfaV hb b, .int .i64 fuel] w
      fun e w' => ∃ bs v ok err, PartsR a b 3 fuel (bs, ok, err) ∧ e = .returned (.tuple #[v, .bool ok, .int .i64 err]) ∧ OwnS Kbyte 5 w' w.heap.size (fun b => w.heap.size ≤ b) v bs ∧ Below w.heap.size w w' := by
  have hc := fun W' (hW' : Below w.heap.size w W') => c_parts2 ha hb a b 3 fuel F G W' (by decide) (hra.below hW') (hrb.below hW')
  obtain ⟨A1, k1, A2, k2, A3, k3⟩ := ha
  obtain ⟨B1, m1, B2, m2, B3, m3⟩ := hb
  simp only [dfaV, dfaC] at hc ⊢
  go_enter Tryz.func20, Tryz.ntmps20
  go_wp2_with fail
  refine calls_name fun W0 hW0 => ?_
  have hE0 : Ext w W0 := by rw [← hW0]; exact ((Ext.refl _).alloc _).alloc _
  clear hW0
  refine (hc W0 hE0.below).mono ?_
  rintro e w1 ⟨bs, v, ok, err, hP, rfl, hO, hB⟩
  have HP := Lib.hid hP
  have HO := Lib.hid hO
  clear hc hP hO
  go_wp2
  go_ret3
  exact ⟨bs, v, ok, err, HP.out, rfl, (HO.out.lower hE0.size).mono fun c hc => Nat.le_trans hE0.size hc, hE0.below.trans (hB.mono hE0.size)⟩

set_option maxRecDepth 100000 in
set_option maxHeartbeats 800000 in
theorem c_Equal (ha hb : DA) (a b : Dfa) (fuel : Int) (F G : Nat → Prop) (w : World) (hra : DfaR w F ha a) (hrb : DfaR w G hb b) :
    Calls Tryz.prog 21 #[dfaV ha a, dfaV hb b, .int .i64 fuel] w
      fun e w' => ∃ bs v ok err, PartsR a b 4 fuel (bs, ok, err) ∧ e = .returned (.tuple #[v, .bool ok, .int .i64 err]) ∧ OwnS Kbyte 5 w' w.heap.size (fun b => w.heap.size ≤ b) v bs ∧ Below w.heap.size w w' := by
  have hc := fun W' (hW' : Below w.heap.size w W') => c_parts2 ha hb a b 4 fuel F G W' (by decide) (hra.below hW') (hrb.below hW')
  obtain ⟨A1, k1, A2, k2, A3, k3⟩ := ha
  obtain ⟨B1, m1, B2, m2, B3, m3⟩ := hb
  simp only [dfaV, dfaC] at hc ⊢
  go_enter Tryz.func21, Tryz.ntmps21
  go_wp2_with fail
  refine calls_name fun W0 hW0 => ?_
  have hE0 : Ext w W0 := by rw [← hW0]; exact ((Ext.refl _).alloc _).alloc _
  clear hW0
  refine (hc W0 hE0.below).mono ?_
  rintro e w1 ⟨bs, v, ok, err, hP, rfl, hO, hB⟩
  have HP := Lib.hid hP
  have HO := Lib.hid hO
  clear hc hP hO
  go_wp2
  go_ret3
  exact ⟨bs, v, ok, err, HP.out, rfl, (HO.out.lower hE0.size).mono fun c hc => Nat.le_trans hE0.size hc, hE0.below.trans (hB.mono hE0.size)⟩

def nameB (op : Nat) : ByteArray := match op with | 1 => ⟨#[97, 110, 100]⟩ | 2 => ⟨#[111, 114]⟩ | 3 => ⟨#[108, 101, 115, 115]⟩ | 4 => ⟨#[100, 105, 102, 102, 101, 114]⟩ | _ => ⟨#[]⟩
theorem c_name (op : Nat) (w : World) (hop : op < 256) : Calls Tryz.prog 24 #[.int .u8 (op : Int)] w fun e w' => e = .returned (.string (nameB op)) ∧ Ext w w' := by
  by_cases h : op < 5
  · have : op = 0 ∨ op = 1 ∨ op = 2 ∨ op = 3 ∨ op = 4 := by omega
    rcases this with rfl | rfl | rfl | rfl | rfl
    all_goals
      go_enter Tryz.func24, Tryz.ntmps24
      go_wp2
      go_ret
      exact ⟨rfl, (Ext.refl _).alloc _⟩
  · have h1 : ¬ (op : Int) < 5 := by omega
    have h2 : (op : Int) ≤ 255 := by omega
    have h3 : (0 : Int) ≤ op := by omega
    have hb : nameB op = ⟨#[]⟩ := by unfold nameB; split <;> first | rfl | omega
    rw [hb]
    go_enter Tryz.func24, Tryz.ntmps24
    go_wp2
    go_ret
    exact ⟨rfl, (Ext.refl _).alloc _⟩
end Go.Proofs
end
