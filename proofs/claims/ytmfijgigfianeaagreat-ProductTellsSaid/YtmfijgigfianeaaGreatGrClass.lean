/- The reference's classes: Set, classes, Class, Rising. The reference's questions on automata: Class, Rising. slices.Equal of the reference's sets, of whole numbers; slices.EqualFunc of rows. -/
import Derived.Test.YtmfijgigfianeaaGreatGrWords
section
set_option linter.unusedVariables false
set_option linter.unusedSimpArgs false
namespace Go.Proofs
open Go.RowKit Go.Shelf Rp Go.Maps
attribute [local go_sem] Oper.semAt_some
set_option maxRecDepth 100000 in
set_option maxHeartbeats 800000 in
theorem c_refSet (l : List BSet) (k m : Nat) (w : World) (hk : (leastsN l)[k]? = some m) :
    Calls Tryz.prog 43 #[.agg (alpA l), .int .i64 (k : Int)] w fun e w' => e = .returned (.agg (setA (clsN l m))) ∧ Below w.heap.size w w' := by
  have hz := zero_refC
  have hAs : (alpA l).size = 256 := arrC_size _
  have hkl : k < (leastsN l).length := (List.getElem?_eq_some_iff.1 hk).1
  go_enter Tryz.func43, Tryz.ntmps43
  go_upto_region 2 with (fail)
  refine wp_name fun W0 hW0 => ?_
  have q0 : W0.heap[w.heap.size]? = some (.cells (alpA l) 81 (0, 0)) := by
    rw [← hW0]; exact (Below.heap_alloc _ _ _ (by simp; omega)).trans ((Below.heap_alloc _ _ _ (by simp)).trans (World.alloc_heap_new w _))
  have q1 : W0.heap[w.heap.size + 1]? = some (.cells (arrC fun _ => 0) 75 (0, 0)) := by
    rw [← hW0]; refine (Below.heap_alloc _ _ _ (by simp)).trans ?_
    have := World.alloc_heap_new (w.alloc (.cells (alpA l) 81)) (.cells (arrC fun _ => 0) 75)
    simpa using this
  have q2 : W0.heap[w.heap.size + 1 + 1]? = some (.cells (arrC fun _ => 0) 75 (0, 0)) := by
    rw [← hW0]
    have := World.alloc_heap_new ((w.alloc (.cells (alpA l) 81)).alloc (.cells (arrC fun _ => 0) 75)) (.cells (arrC fun _ => 0) 75)
    simpa using this
  have hE0 : Ext w W0 := by rw [← hW0]; exact (((Ext.refl _).alloc _).alloc _).alloc _
  clear hW0 hz
  have hk0 : (0 : Int) ≤ k := by omega
  have hk1 : (k : Int) < (intsOf (leastsN l)).length := by simp; omega
  have hll : (leastsN l).length ≤ 256 := by have := leastsTo_len l 256; simpa [leastsTo, leastsN] using this
  have HK := Lib.hid hk
  clear hk
  go_wp2_with (first
    | (refine wpList_load_row rfl _ _ rfl _ rfl _ (alpA l) _ _ q0 Tryz.underlying81 rfl (by rw [hAs]; exact size_alp) ?_)
    | (go_at_call 42; refine (c_leasts l W0).mono ?_; rintro e w1 ⟨v, rfl, hO, hB1⟩; obtain ⟨g, cc, rfl⟩ := hO.form (by intro e; rw [List.map_eq_nil_iff] at e; rw [e] at hkl; simp at hkl); obtain ⟨em, _, _, _, _, hm64⟩ := hO.at1 (i := k) (x := (m : Int)) (by simp [HK.out])))
  have r0 := (hB1.block _ (Array.getElem?_eq_some_iff.1 q0).1).trans q0
  have r1 := (hB1.block _ (Array.getElem?_eq_some_iff.1 q1).1).trans q1
  have r2 := (hB1.block _ (Array.getElem?_eq_some_iff.1 q2).1).trans q2
  have hBw := hE0.below.trans (hB1.mono hE0.size)
  clear q0 q1 q2 hO em
  go_loopg [7] 257 (fun gk vc wr => ∃ c : Nat, vc = .int .i64 (c : Int) ∧ c ≤ 256 ∧ gk + c = 257 ∧ wr.heap[w.heap.size + 1 + 1]? = some (.cells (arrC fun d => if d < c then bitI (leastN l d == m) else 0) 75 (0, 0)) ∧ Kp (fun k => k = w.heap.size + 1 + 1) w1 wr)
  case atStart => exact ⟨0, rfl, by omega, rfl, by simpa using r2, Kp.refl _ _⟩
  case round =>
    obtain ⟨c, rfl, hc, hgk, hb, hK⟩ := hrel
    have HG := Lib.hid hgk
    clear hgk
    have h0 := hK.heap r0 (by omega)
    by_cases hlt : c < 256
    · have hlt' : (c : Int) < 256 := by omega
      have hc0 : (0 : Int) ≤ c := by omega
      have hce := (cell_of_row wr w.heap.size c _ _ _ h0).trans (arrC_at _ c hlt)
      have hoe := (cell_of_row wr (w.heap.size + 1 + 1) c _ _ _ hb).trans (arrC_at _ c hlt)
      have hfr := frozen_of_row wr (w.heap.size + 1 + 1) c _ _ hb
      have hext : ∀ x : Int, x = bitI (leastN l c == m) → arrC (fun d => if d = c then x else if d < c then bitI (leastN l d == m) else 0) = arrC (fun d => if d < c + 1 then bitI (leastN l d == m) else 0) := by
        intro x hx
        apply arrC_ext
        intro d hd
        by_cases e : d = c
        · subst e; simp [hx]
        · have : (d < c + 1) = (d < c) := by rw [eq_iff_iff]; omega
          simp only [e, if_false, this]
      have HH := Lib.hid hb
      have HKp := Lib.hid hK
      have HEXT := Lib.hid hext
      clear hb hK h0 hext
      by_cases he : leastN l c = m
      · have he' : ((leastN l c : Int) == (m : Int)) = true := by simp [he]
        have hset := setCell_heap wr (w.heap.size + 1 + 1) c _ _ _ (.int .i64 1) HH.out
        rw [arrC_set _ c hlt, HEXT.out 1 (by simp [he])] at hset
        have HSET := Lib.hid hset
        clear he hset
        go_wp2
        go_roundg (gk - 1)
        case measure => have := HG.out; omega
        case rel => exact ⟨c + 1, by go_num, by omega, by have := HG.out; omega, HSET.out, HKp.out.setCell ⟨w.heap.size + 1 + 1, c, none⟩ rfl _⟩
      · have he' : ((leastN l c : Int) == (m : Int)) = false := by simp; omega
        have hnb : (0 : Int) = bitI (leastN l c == m) := by
          have : (leastN l c == m) = false := by simpa using he
          rw [this]; rfl
        have hsame : arrC (fun d => if d < c then bitI (leastN l d == m) else 0) = arrC (fun d => if d < c + 1 then bitI (leastN l d == m) else 0) := by
          rw [← HEXT.out 0 hnb]
          apply arrC_ext
          intro d hd
          by_cases e : d = c
          · subst e; simp
          · simp [e]
        have HSAME := Lib.hid hsame
        clear he hnb hsame
        go_wp2
        go_roundg (gk - 1)
        case measure => have := HG.out; omega
        case rel => exact ⟨c + 1, by go_num, by omega, by have := HG.out; omega, by rw [← HSAME.out]; exact HH.out, HKp.out⟩
    · obtain rfl : c = 256 := by omega
      have h1 := hK.heap r1 (by omega)
      have hA : arrC (fun d => if d < 256 then bitI (leastN l d == m) else 0) = setA (clsN l m) := arrC_ext fun d hd => by rw [if_pos hd, clsN_bit _ _ _ hd]
      rw [hA] at hb
      have hsz : w.heap.size + 1 + 1 < wr.heap.size := (Array.getElem?_eq_some_iff.1 hb).1
      clear hA h0
      go_wp2_with (first
        | (refine wpList_load_row rfl _ _ rfl _ rfl _ (setA (clsN l m)) _ _ hb Tryz.underlying75 rfl (by rw [setA_size]; exact size_ref) ?_)
        | (refine wpList_store_all rfl _ _ _ rfl (w.heap.size + 1) _ _ (setA (clsN l m)) rfl rfl h1 (by rw [setA_size, arrC_size]) (by rw [setA_size]; exact size_ref) (arrC_one _) ?_; intro w9 hb9 hK9))
      exact bodyPost_ret (v := .agg (setA (clsN l m))) (results_cell_row rfl _ _ _ _ _ _ _ rfl hb9 Tryz.underlying75 rfl (by rw [setA_size]; exact size_ref)) rfl ⟨rfl, (hBw.trans (hK.below hBw.size (fun k hk e => by omega))).trans (hK9.below (Nat.le_trans hBw.size hK.size) (fun k hk e => by omega))⟩
theorem info_ref : (Tryz.prog.info? 75).map (fun i => (i.zero, i.size, i.bytes)) = some (some (.agg (Array.replicate 256 (.int .i64 0))), 256, 2048) := by kernel_rfl
theorem cells_ref : (Value.agg (Array.replicate 256 (.int .i64 0))).cells.size = 256 := by kernel_rfl
/-- A slice of one set of the reference. -/
theorem run_one_ref (s : BSet) (w : World) : (Instr.buildSlice 40 1 #[(0, .agg (setA s))]).run Tryz.prog w = .ok (.slice (some ⟨w.heap.size, 0, none⟩) 1 1) (w.alloc (.cells (setA s) 75)) := by
  obtain ⟨i0, hi, hzz⟩ := Option.map_eq_some_iff.1 info_ref
  simp only [Prod.mk.injEq] at hzz
  exact run_buildSlice_row _ _ i0 _ (setA s) Tryz.underlying40 hi hzz.1 (by rw [hzz.2.1, setA_size]) (by rw [cells_ref, setA_size]) (by rw [setA_size]; omega) (by rw [setA_size]; omega) w
theorem leasts_le (l : List BSet) : (leastsN l).length ≤ 256 := by have := leastsTo_len l 256; simpa [leastsTo, leastsN] using this
set_option maxRecDepth 100000 in
set_option maxHeartbeats 1600000 in
theorem c_refClasses (l : List BSet) (w : World) :
    Calls Tryz.prog 56 #[.agg (alpA l)] w fun e w' => ∃ v, e = .returned v ∧ OwnS Kref 75 w' w.heap.size (fun b => w.heap.size ≤ b) v (refClasses l) ∧ Below w.heap.size w w' := by
  have hAs : (alpA l).size = 256 := arrC_size _
  have hll := leasts_le l
  go_enter Tryz.func56, Tryz.ntmps56
  go_wp2
  refine wp_name fun W0 hW0 => ?_
  have q0 : W0.heap[w.heap.size]? = some (.cells (alpA l) 81 (0, 0)) := by
    rw [← hW0]; exact World.alloc_heap_new w _
  have hE0 : Ext w W0 := by rw [← hW0]; exact (Ext.refl _).alloc _
  have hz0 : w.heap.size < W0.heap.size := by rw [← hW0]; simp
  clear hW0
  go_loopg [3, 4] ((leastsN l).length + 1) (fun gk v vc wr => ∃ k : Nat, vc = .int .i64 (k : Int) ∧ k ≤ (leastsN l).length ∧ gk + k = (leastsN l).length + 1 ∧ OwnS Kref 75 wr W0.heap.size (fun b => W0.heap.size ≤ b) v ((refClasses l).take k) ∧ Below W0.heap.size W0 wr)
  case atStart => exact ⟨0, rfl, by omega, by omega, OwnS.nil _ _ _ _ _, Below.refl _ _⟩
  case round =>
    obtain ⟨k, rfl, hk, hgk, hO, hB⟩ := hrel
    have HG := Lib.hid hgk
    obtain ⟨Av, kv, rfl, _, _, _⟩ := hO.reads
    have hq0 := (hB.block _ hz0).trans q0
    have hk0 : (0 : Int) ≤ k := by omega
    have hsl : (intsOf (leastsN l)).length = (leastsN l).length := by simp
    have HO := Lib.hid hO
    have HQ0 := Lib.hid q0
    have HB := Lib.hid hB
    clear hgk hO q0 hB
    by_cases hlt : k < (leastsN l).length
    · have hlt' : (k : Int) < (leastsN l).length := by omega
      have hlt2 : (k : Int) < (intsOf (leastsN l)).length := by rw [hsl]; omega
      have hst := fun W' => c_refSet l k (leastsN l)[k] W' (List.getElem?_eq_getElem hlt)
      have htk : (refClasses l).take (k + 1) = (refClasses l).take k ++ [clsN l (leastsN l)[k]] := by
        rw [List.take_succ_eq_append_getElem (by simpa [refClasses] using hlt)]
        simp [refClasses]
      have htl : ((refClasses l).take k).length ≤ 256 := by simp [refClasses]; omega
      have HTK := Lib.hid htk
      generalize clsN l (leastsN l)[k] = ck at *
      generalize (refClasses l).take k = tk at *
      have hbs := run_one_ref ck
      clear htk
      go_wp2_with (first
        | (refine wpList_load_row rfl _ _ rfl _ rfl _ (alpA l) _ _ hq0 Tryz.underlying81 rfl (by rw [hAs]; exact size_alp) ?_)
        | (refine wpList_load_row rfl _ _ rfl _ rfl _ (alpA l) _ _ hq1 Tryz.underlying81 rfl (by rw [hAs]; exact size_alp) ?_)
        | (go_at_call 42; refine (c_leasts l wr).mono ?_; rintro e w1 ⟨v1, rfl, hO1, hB1⟩; obtain ⟨A1, c1, rfl, _, _, _⟩ := hO1.reads; have hq1 := (hB1.block _ (Array.getElem?_eq_some_iff.1 hq0).1).trans hq0; have HB1 := Lib.hid (HB.out.trans (hB1.mono HB.out.size)))
        | (go_at_call 43; refine (hst w1).mono ?_; rintro e w2 ⟨rfl, hB2⟩; have HO2 := Lib.hid ((HO.out.below hB1).below hB2); have HB2 := Lib.hid (HB1.out.trans (hB2.mono HB1.out.size)))
        | (refine wpList_build_row rfl 40 _ rfl (.agg (setA ck)) _ (by rfl) (hbs _) ?_)
        | (at_builtin; refine own_append Kref w2 W0.heap.size w2.heap.size rfl _ _ 40 75 (.agg (Array.replicate 256 (.int .i64 0))) 2048 rfl Tryz.underlying40 info_ref cells_ref (by decide) (by decide) (.slice Av tk.length kv) tk ck (setA ck).toList (fun b => W0.heap.size ≤ b) (by rfl) rfl rfl rfl HO2.out (fun k hk => Nat.le_trans HB2.out.size hk) HB2.out.size (by omega) ?_; intro v9 w9 hO9 hM9 hv9))
      go_roundg (gk - 1)
      case measure => have := HG.out; omega
      case rel => exact ⟨k + 1, by go_num, by omega, by have := HG.out; omega, by rw [HTK.out]; exact hO9, Mov.below HB2.out hM9 HB2.out.size (fun k hk => HO2.out.1 k hk)⟩
    · obtain rfl : k = (leastsN l).length := by omega
      have hge : ¬ (((leastsN l).length : Nat) : Int) < (leastsN l).length := by omega
      have hfl : (refClasses l).take (leastsN l).length = refClasses l := List.take_of_length_le (by simp [refClasses])
      have HFL := Lib.hid hfl
      generalize (refClasses l).take (leastsN l).length = tk at *
      clear hfl
      go_wp2_with (first
        | (refine wpList_load_row rfl _ _ rfl _ rfl _ (alpA l) _ _ hq0 Tryz.underlying81 rfl (by rw [hAs]; exact size_alp) ?_)
        | (go_at_call 42; refine (c_leasts l wr).mono ?_; rintro e w1 ⟨v1, rfl, hO1, hB1⟩; obtain ⟨A1, c1, rfl, _, _, _⟩ := hO1.reads; rw [hsl]; have HO2 := Lib.hid (HO.out.below hB1); have HB1 := Lib.hid (HB.out.trans (hB1.mono HB.out.size))))
      go_ret
      have ho := HO2.out
      exact ⟨_, rfl, by rw [← HFL.out]; exact (ho.lower hE0.size).mono fun b hb => Nat.le_trans hE0.size hb, hE0.below.trans (HB1.out.mono hE0.size)⟩
end Go.Proofs
end

section
set_option linter.unusedVariables false
set_option linter.unusedSimpArgs false
namespace Rp
open Go Go.RowKit Go.Proofs
/-- An automaton of the reference that is read. -/
structure DfaT (w : World) (F : Nat → Prop) (h : DA) (d : Dfa) : Prop where
  t1 : Kref.S w F h.A1 d.cls
  t2 : Kints.S w F h.A2 d.next
  t3 : Kints.S w F h.A3 d.marks
theorem DfaT.below {w w' : World} {F : Nat → Prop} {h : DA} {d : Dfa} (r : DfaT w F h d) (hb : Below w.heap.size w w') : DfaT w' F h d := ⟨S_below r.t1 hb, S_below r.t2 hb, S_below r.t3 hb⟩
theorem DfaT.mono {w : World} {F G : Nat → Prop} {h : DA} {d : Dfa} (r : DfaT w F h d) (hm : ∀ b, F b → G b) : DfaT w G h d := ⟨r.t1.mono hm, r.t2.mono hm, r.t3.mono hm⟩
theorem DfaT.bound {w : World} {F : Nat → Prop} {h : DA} {d : Dfa} (r : DfaT w F h d) : DfaT w (fun b => F b ∧ b < w.heap.size) h d := ⟨r.t1.bound, r.t2.bound, r.t3.bound⟩
theorem DfaT.step {w w1 : World} {F : Nat → Prop} {h : DA} {d : Dfa} (r : DfaT w F h d) (hm : ∀ b, F b → b < w.heap.size → w1.heap[b]? = w.heap[b]?) : DfaT w1 F h d := ⟨r.t1.step hm, r.t2.step hm, r.t3.step hm⟩
/-- In order so far: what is left. -/
def lastOf (l : List Int) (i : Nat) : Int := if i = 0 then -1 else l.getD (i - 1) 0
theorem risB_next (l : List Int) (i : Nat) (h : i < l.length) : risB (lastOf l i) (l.drop i) = (!(decide (l[i] ≤ lastOf l i) || decide (l[i] > 255)) && risB (lastOf l (i + 1)) (l.drop (i + 1))) := by
  rw [risB_step _ _ _ h]
  have : lastOf l (i + 1) = l[i] := by
    unfold lastOf
    rw [if_neg (by omega), Nat.add_sub_cancel, List.getD_eq_getElem?_getD, List.getElem?_eq_getElem h]; rfl
  rw [this]
end Rp
namespace Go.Proofs
open Go.RowKit Go.Shelf Rp Go.Maps
attribute [local go_sem] Oper.semAt_some
set_option maxRecDepth 100000 in
set_option maxHeartbeats 800000 in
theorem c_refClass (A1 A2 A3 : Option Addr) (n1 n2 n3 k1 k2 k3 : Nat) (cls : List BSet) (c : Nat) (F : Nat → Prop) (w : World) (hS : Kref.S w F A1 cls) (hn : n1 = cls.length) (hc : c < 256) (hk : clsOf cls c < cls.length) (hl : cls.length ≤ 1000000000) :
    Calls Tryz.prog 44 #[.agg #[.slice A1 n1 k1, .slice A2 n2 k2, .slice A3 n3 k3], .int .u8 (c : Int)] w fun e w' => e = .returned (.int .i64 (clsOf cls c : Int)) ∧ Below w.heap.size w w' := by
  subst hn
  have hS0 := hS.bound
  go_enter Tryz.func44, Tryz.ntmps44
  go_wp2
  refine wp_name fun W0 hW0 => ?_
  have q0 : W0.heap[w.heap.size]? = some (.cells #[.slice A1 cls.length k1, .slice A2 n2 k2, .slice A3 n3 k3] 42 (0, 0)) := by rw [← hW0]; exact World.alloc_heap_new w _
  have hE0 : Ext w W0 := by rw [← hW0]; exact (Ext.refl _).alloc _
  clear hW0
  obtain ⟨c0, _, _⟩ := cells3 q0
  have hS1 := hS0.step (w1 := W0) fun b _ hl => hE0.below.block b hl
  have hc0 : (0 : Int) ≤ c := by omega
  have hc1 : (c : Int) < 256 := by omega
  clear hS hS0
  go_loopg [5] (cls.length + 1) (fun gk vk wr => ∃ k : Nat, vk = .int .i64 (k : Int) ∧ k ≤ clsOf cls c ∧ gk + k = cls.length + 1 ∧ W0 = wr)
  case atStart => exact ⟨0, rfl, by omega, by omega, rfl⟩
  case round =>
    obtain ⟨k, rfl, hkk, hgk, rfl⟩ := hrel
    have HG := Lib.hid hgk
    have hkl : k < cls.length := by omega
    obtain ⟨b, o, rfl, hF, hb, e5⟩ := S_ref hS1 hkl
    have ec := e5 c hc
    have hk0 : (0 : Int) ≤ k := by omega
    have hk1 : (k : Int) < cls.length := by omega
    have hk2 : (k : Int) + 1 ≤ 1000000001 := by omega
    have HKK := Lib.hid hkk
    have hk9 : cls.findIdx (fun s => s.getLsbD c) < cls.length := hk
    have HK := Lib.hid hk
    clear e5 hgk hk
    by_cases hb : cls[k].getLsbD c = true
    · have hz : clsOf cls c = k := by
        apply Nat.le_antisymm _ hkk
        apply Nat.le_of_not_lt; intro hlt
        have h1 := List.not_of_lt_findIdx (p := fun s : BSet => s.getLsbD c) (xs := cls) hlt
        rw [hb] at h1; cases h1
      have hbe : bitI (cls[k].getLsbD c) = 1 := by rw [hb]; rfl
      rw [hbe] at ec
      have HZ := Lib.hid hz
      clear hb hz hbe hkk
      go_wp2
      go_ret
      exact ⟨by rw [HZ.out]; rfl, hE0.below⟩
    · have hbf : cls[k].getLsbD c = false := by simpa using hb
      have hlt : k < clsOf cls c := by
        apply Nat.lt_of_le_of_ne hkk
        intro e
        apply hb
        have h1 := List.findIdx_getElem (p := fun s : BSet => s.getLsbD c) (xs := cls) (w := hk9)
        subst e
        exact h1
      have hbe : bitI (cls[k].getLsbD c) = 0 := by rw [hbf]; rfl
      rw [hbe] at ec
      clear hb hbf hbe hkk
      go_wp2
      go_roundg (gk - 1)
      case measure => have := HG.out; omega
      case rel => exact ⟨k + 1, by go_num, by omega, by have := HG.out; omega, rfl⟩
set_option maxRecDepth 100000 in
set_option maxHeartbeats 1600000 in
theorem c_rising (A : Option Addr) (cap : Nat) (l : List Int) (F : Nat → Prop) (w : World) (hS : Kint.S w F A l) (hl : l.length ≤ 1000000000) :
    Calls Tryz.prog 57 #[.slice A l.length cap, .int .i64 0, .int .i64 256] w fun e w' => e = .returned (.bool (risB (-1) l)) ∧ ∃ q, w' = w.drewN q := by
  go_enter Tryz.func57, Tryz.ntmps57
  go_wp2
  go_loopg [7] (l.length + 1) (fun gk vi wr => ∃ i : Nat, vi = .int .i64 (i : Int) ∧ i ≤ l.length ∧ gk + i = l.length + 1 ∧ risB (-1) l = risB (lastOf l i) (l.drop i) ∧ -1 ≤ lastOf l i ∧ ∃ q, wr = w.drewN q)
  case atStart => exact ⟨0, rfl, by omega, by omega, rfl, by simp [lastOf], 0, rfl⟩
  case round =>
    obtain ⟨i, rfl, hi, hgk, hris, hlo, q, rfl⟩ := hrel
    have HG := Lib.hid hgk
    have HR := Lib.hid hris
    clear hgk hris
    have hi0 : (0 : Int) ≤ i := by omega
    by_cases hlt : i < l.length
    · have hlt' : (i : Int) < l.length := by omega
      obtain ⟨b, o, rfl, hF, hb, ei, hin⟩ := S_int hS hlt
      have hnx := risB_next l i hlt
      have hls : lastOf l (i + 1) = l[i] := by
        unfold lastOf
        rw [if_neg (by omega), Nat.add_sub_cancel, List.getD_eq_getElem?_getD, List.getElem?_eq_getElem hlt]; rfl
      have hHL := Lib.hid hls
      have HNX := Lib.hid hnx
      clear hnx hls
      generalize l[i] = x at *
      by_cases c1 : x < 0
      · have hf : risB (-1) l = false := by
          rw [HR.out, HNX.out]
          have : decide (x ≤ lastOf l i) = true := by simp; omega
          rw [this]; simp
        have c1' : decide (x < 0) = true := by simpa using c1
        have HF := Lib.hid hf
        clear hf
        go_wp2
        go_quiet (fail)
        go_wp2
        go_ret
        exact ⟨by rw [HF.out]; rfl, q + nq, by simp [World.drewN_drewN]⟩
      · have c1' : decide (x < 0) = false := by simpa using c1
        by_cases c2 : 256 ≤ x
        · have hf : risB (-1) l = false := by
            rw [HR.out, HNX.out]
            have : decide (x > 255) = true := by simp; omega
            rw [this]; simp
          have c2' : decide (256 ≤ x) = true := by simpa using c2
          have HF := Lib.hid hf
          clear hf
          go_wp2
          go_quiet (fail)
          go_wp2
          go_ret
          exact ⟨by rw [HF.out]; rfl, q + nq, by simp [World.drewN_drewN]⟩
        · have c2' : decide (256 ≤ x) = false := by simpa using c2
          have h255 : decide (x > 255) = false := by simp; omega
          have H255 := Lib.hid h255
          clear h255
          cases i with
          | zero =>
            have hd : decide (x ≤ lastOf l 0) = false := by simp [lastOf]; omega
            have HD := Lib.hid hd
            clear hd
            rw [Nat.add_zero] at ei
            go_wp2
            go_quiet (fail)
            go_wp2
            go_roundg (gk - 1)
            case measure => have := HG.out; omega
            case rel => exact ⟨1, by go_num, by omega, by have := HG.out; omega, by rw [HR.out, HNX.out, HD.out, H255.out]; rfl, by have := hHL.out; simp only [Nat.zero_add] at this; omega, _, rfl⟩
          | succ j =>
            obtain ⟨b', o', e', _, _, ej, _⟩ := S_int hS (i := j) (by omega)
            cases e'
            have hlj : lastOf l (j + 1) = l[j]'(by omega) := by
              unfold lastOf
              rw [if_neg (by omega), Nat.add_sub_cancel, List.getD_eq_getElem?_getD, List.getElem?_eq_getElem (by omega)]; rfl
            have hjl : (j : Int) < l.length := by omega
            have hj0 : (0 : Int) ≤ j := by omega
            have HLJ := Lib.hid hlj
            clear hlj
            generalize l[j]'(by omega) = y at *
            by_cases c3 : x ≤ y
            · have hf : risB (-1) l = false := by
                rw [HR.out, HNX.out, HLJ.out]
                have : decide (x ≤ y) = true := by simpa using c3
                rw [this]; simp
              have c3' : decide (x ≤ y) = true := by simpa using c3
              have HF := Lib.hid hf
              clear hf
              go_wp2
              go_quiet (fail)
              go_wp2
              go_ret
              exact ⟨by rw [HF.out]; rfl, q + nq, by simp [World.drewN_drewN]⟩
            · have c3' : decide (x ≤ y) = false := by simpa using c3
              go_wp2
              go_quiet (fail)
              go_wp2
              go_roundg (gk - 1)
              case measure => have := HG.out; omega
              case rel => exact ⟨j + 1 + 1, by go_num, by omega, by have := HG.out; omega, by rw [HR.out, HNX.out, HLJ.out, c3', H255.out]; rfl, by have := hHL.out; omega, _, rfl⟩
    · obtain rfl : i = l.length := by omega
      have hge : ¬ ((l.length : Int) < l.length) := by omega
      go_wp2
      go_ret
      exact ⟨by rw [HR.out, List.drop_length]; rfl, _, rfl⟩
end Go.Proofs
end

section
set_option linter.unusedVariables false
set_option linter.unusedSimpArgs false
namespace Rp
open Go Go.RowKit
/-- What the two loads of a comparison ask. -/
def SEq (b1 o1 b2 o2 : Nat) (x y : BSet) (w : World) : Prop := w.rangeAt b1 o1 (setA x).toList ∧ w.rangeAt b2 o2 (setA y).toList
end Rp
namespace Go.Proofs
open Go.RowKit Go.Shelf Rp Go.Maps
attribute [local go_sem] Oper.semAt_some
theorem size_refL (s : BSet) : (Tryz.prog.info? 75).map (·.size) = some (setA s).toList.length := by rw [size_ref]; simp [setA_size]
theorem und_ref : Tryz.prog.underlying 75 = some (.array 256 3) := Tryz.underlying75
set_option maxRecDepth 100000 in
set_option maxHeartbeats 1600000 in
theorem c_eqRef (A1 A2 : Option Addr) (c1 c2 : Nat) (l1 l2 : List BSet) (F1 F2 : Nat → Prop) (w : World) (hS1 : Kref.S w F1 A1 l1) (hS2 : Kref.S w F2 A2 l2) (hm : l1.length ≤ 1000000000) :
    Calls Tryz.prog 38 #[.slice A1 l1.length c1, .slice A2 l2.length c2] w fun e w' => e = .returned (.bool (decide (l1 = l2))) ∧ ∃ q, w' = w.drewN q := by
  by_cases hl : l1.length = l2.length
  · have hl' : ((l1.length : Int) != l2.length) = false := by simp [hl]
    have HL := Lib.hid hl
    clear hl
    go_enter Tryz.func38, Tryz.ntmps38
    go_wp2
    go_loopg [13] (l1.length + 1) (fun gk i wr => ∃ k : Nat, i = .int .i64 k ∧ k ≤ l1.length ∧ gk + k = l1.length + 1 ∧ l1.take k = l2.take k ∧ ∃ q, wr = w.drewN q)
    case atStart => exact ⟨0, rfl, by omega, by omega, by simp, 0, rfl⟩
    case round =>
      obtain ⟨k, rfl, hk, hgk, ht, q, rfl⟩ := hrel
      have HG := Lib.hid hgk
      have HT := Lib.hid ht
      clear hgk ht
      by_cases hlt : k < l1.length
      · obtain ⟨b1, o1, rfl, hF1, hb1, p1⟩ := range_ref hS1 hlt
        have hlt2 : k < l2.length := by have := HL.out; omega
        obtain ⟨b2, o2, rfl, hF2, hb2, p2⟩ := range_ref hS2 hlt2
        have hst := take_eq_step hlt hlt2 HT.out
        have hne : l1[k] ≠ l2[k] → l1 ≠ l2 := fun h e => h (by subst e; rfl)
        have heq := run_eq_ref (P := Tryz.prog) Tryz.underlying75 Tryz.underlying3 Tryz.sizeOf3 l1[k] l2[k]
        generalize l1[k] = x at *
        generalize l2[k] = y at *
        have hk0 : (0 : Int) ≤ k := by omega
        have hk1 : (k : Int) < l1.length := by omega
        have hk2 : (k : Int) < l2.length := by omega
        have HST := Lib.hid hst
        have HN := Lib.hid hne
        have hS : SEq b1 (o1 + k * 256) b2 (o2 + k * 256) x y (w.drewN q).drew := ⟨p1, p2⟩
        clear hst hne hS1 hS2 p1 p2
        by_cases hxy : x = y
        · have hd : decide (x = y) = true := by simpa using hxy
          rw [hd] at heq
          have HX := Lib.hid hxy
          clear hxy hd
          go_wp2
          refine wp_region_noPanic (wp_region_T (SEq b1 (o1 + k * 256) b2 (o2 + k * 256) x y) [3, 7] (by kernel_rfl) ?_)
          refine wpAnyT_takeY (i := 0) (v := ?v0_1) rfl (by kernel_rfl) (by kernel_rfl) (by kernel_rfl) (fun _ _ _ h => h) (by rfl) ?hy0_1 ?r0_1
          case hy0_1 => (intro w; go_simp; try (with_reducible rfl))
          case r0_1 =>
          try simp only [Act.put, List.setIfInBounds_toArray, List.set_cons_zero, List.set_cons_succ]
          refine wpAnyT_takeY (i := 1) (v := ?v1_2) rfl (by kernel_rfl) (by kernel_rfl) (by kernel_rfl) (fun _ _ _ h => h) (by rfl) ?hy1_2 ?r1_2
          case hy1_2 => (intro w; go_simp; try (with_reducible rfl))
          case r1_2 =>
          try simp only [Act.put, List.setIfInBounds_toArray, List.set_cons_zero, List.set_cons_succ]
          refine wpAnyT_takeY (i := 2) (v := ?v2_3) rfl (by kernel_rfl) (by kernel_rfl) (by kernel_rfl) (fun _ _ _ h => h) (by rfl) ?hy2_3 ?r2_3
          case hy2_3 => (intro w; go_simp; try (with_reducible rfl))
          case r2_3 =>
          try simp only [Act.put, List.setIfInBounds_toArray, List.set_cons_zero, List.set_cons_succ]
          refine wpAnyT_takeY (i := 4) (v := ?v4_4) rfl (by kernel_rfl) (by kernel_rfl) (by kernel_rfl) (fun _ _ _ h => h) (by rfl) ?hy4_4 ?r4_4
          case hy4_4 => (intro w; go_simp; try (with_reducible rfl))
          case r4_4 =>
          try simp only [Act.put, List.setIfInBounds_toArray, List.set_cons_zero, List.set_cons_succ]
          refine wpAnyT_takeY (i := 5) (v := ?v5_5) rfl (by kernel_rfl) (by kernel_rfl) (by kernel_rfl) (fun _ _ _ h => h) (by rfl) ?hy5_5 ?r5_5
          case hy5_5 => (intro w; go_simp; try (with_reducible rfl))
          case r5_5 =>
          try simp only [Act.put, List.setIfInBounds_toArray, List.set_cons_zero, List.set_cons_succ]
          refine wpAnyT_takeY (i := 6) (v := ?v6_6) rfl (by kernel_rfl) (by kernel_rfl) (by kernel_rfl) (fun _ _ _ h => h) (by rfl) ?hy6_6 ?r6_6
          case hy6_6 => (intro w; go_simp; try (with_reducible rfl))
          case r6_6 =>
          try simp only [Act.put, List.setIfInBounds_toArray, List.set_cons_zero, List.set_cons_succ]
          refine wpAnyT_take (i := 3) (v := .agg (setA x)) rfl rfl (by kernel_rfl) (by kernel_rfl) (by kernel_rfl) (fun _ _ _ h => h) (by rfl) hS (fun w hSw => exec_load_mid _ _ rfl b1 (o1 + k * 256) rfl _ _ hSw.1 und_ref rfl (size_refL x)) ?_
          try simp only [Act.put, List.setIfInBounds_toArray, List.set_cons_zero, List.set_cons_succ]
          refine wpAnyT_take (i := 7) (v := .agg (setA y)) rfl rfl (by kernel_rfl) (by kernel_rfl) (by kernel_rfl) (fun _ _ _ h => h) (by rfl) hS (fun w hSw => exec_load_mid _ _ rfl b2 (o2 + k * 256) rfl _ _ hSw.2 und_ref rfl (size_refL y)) ?_
          try simp only [Act.put, List.setIfInBounds_toArray, List.set_cons_zero, List.set_cons_succ]
          refine wpAnyT_takeY (i := 8) (v := ?v8_7) rfl (by kernel_rfl) (by kernel_rfl) (by kernel_rfl) (fun _ _ _ h => h) (by rfl) ?hy8_7 ?r8_7
          case hy8_7 => (intro w; go_simp; try (with_reducible rfl))
          case r8_7 =>
          try simp only [Act.put, List.setIfInBounds_toArray, List.set_cons_zero, List.set_cons_succ]
          refine wpAnyT_done (by kernel_rfl) ?_ _
          refine NoPanic.normal ?_
          go_wp2
          go_roundg (gk - 1)
          case measure => have := HG.out; omega
          case rel => exact ⟨k + 1, by go_num, by omega, by have := HG.out; omega, HST.out.2 HX.out, q + 1, by simp [World.drewN]⟩
        · have hd : decide (x = y) = false := by simpa using hxy
          rw [hd] at heq
          have hr : decide (l1 = l2) = false := by simpa using HN.out hxy
          have HR := Lib.hid hr
          clear hxy hd hr
          go_wp2
          refine wp_region_noPanic (wp_region_T (SEq b1 (o1 + k * 256) b2 (o2 + k * 256) x y) [3, 7] (by kernel_rfl) ?_)
          refine wpAnyT_takeY (i := 0) (v := ?v0_8) rfl (by kernel_rfl) (by kernel_rfl) (by kernel_rfl) (fun _ _ _ h => h) (by rfl) ?hy0_8 ?r0_8
          case hy0_8 => (intro w; go_simp; try (with_reducible rfl))
          case r0_8 =>
          try simp only [Act.put, List.setIfInBounds_toArray, List.set_cons_zero, List.set_cons_succ]
          refine wpAnyT_takeY (i := 1) (v := ?v1_9) rfl (by kernel_rfl) (by kernel_rfl) (by kernel_rfl) (fun _ _ _ h => h) (by rfl) ?hy1_9 ?r1_9
          case hy1_9 => (intro w; go_simp; try (with_reducible rfl))
          case r1_9 =>
          try simp only [Act.put, List.setIfInBounds_toArray, List.set_cons_zero, List.set_cons_succ]
          refine wpAnyT_takeY (i := 2) (v := ?v2_10) rfl (by kernel_rfl) (by kernel_rfl) (by kernel_rfl) (fun _ _ _ h => h) (by rfl) ?hy2_10 ?r2_10
          case hy2_10 => (intro w; go_simp; try (with_reducible rfl))
          case r2_10 =>
          try simp only [Act.put, List.setIfInBounds_toArray, List.set_cons_zero, List.set_cons_succ]
          refine wpAnyT_takeY (i := 4) (v := ?v4_11) rfl (by kernel_rfl) (by kernel_rfl) (by kernel_rfl) (fun _ _ _ h => h) (by rfl) ?hy4_11 ?r4_11
          case hy4_11 => (intro w; go_simp; try (with_reducible rfl))
          case r4_11 =>
          try simp only [Act.put, List.setIfInBounds_toArray, List.set_cons_zero, List.set_cons_succ]
          refine wpAnyT_takeY (i := 5) (v := ?v5_12) rfl (by kernel_rfl) (by kernel_rfl) (by kernel_rfl) (fun _ _ _ h => h) (by rfl) ?hy5_12 ?r5_12
          case hy5_12 => (intro w; go_simp; try (with_reducible rfl))
          case r5_12 =>
          try simp only [Act.put, List.setIfInBounds_toArray, List.set_cons_zero, List.set_cons_succ]
          refine wpAnyT_takeY (i := 6) (v := ?v6_13) rfl (by kernel_rfl) (by kernel_rfl) (by kernel_rfl) (fun _ _ _ h => h) (by rfl) ?hy6_13 ?r6_13
          case hy6_13 => (intro w; go_simp; try (with_reducible rfl))
          case r6_13 =>
          try simp only [Act.put, List.setIfInBounds_toArray, List.set_cons_zero, List.set_cons_succ]
          refine wpAnyT_take (i := 3) (v := .agg (setA x)) rfl rfl (by kernel_rfl) (by kernel_rfl) (by kernel_rfl) (fun _ _ _ h => h) (by rfl) hS (fun w hSw => exec_load_mid _ _ rfl b1 (o1 + k * 256) rfl _ _ hSw.1 und_ref rfl (size_refL x)) ?_
          try simp only [Act.put, List.setIfInBounds_toArray, List.set_cons_zero, List.set_cons_succ]
          refine wpAnyT_take (i := 7) (v := .agg (setA y)) rfl rfl (by kernel_rfl) (by kernel_rfl) (by kernel_rfl) (fun _ _ _ h => h) (by rfl) hS (fun w hSw => exec_load_mid _ _ rfl b2 (o2 + k * 256) rfl _ _ hSw.2 und_ref rfl (size_refL y)) ?_
          try simp only [Act.put, List.setIfInBounds_toArray, List.set_cons_zero, List.set_cons_succ]
          refine wpAnyT_takeY (i := 8) (v := ?v8_14) rfl (by kernel_rfl) (by kernel_rfl) (by kernel_rfl) (fun _ _ _ h => h) (by rfl) ?hy8_14 ?r8_14
          case hy8_14 => (intro w; go_simp; try (with_reducible rfl))
          case r8_14 =>
          try simp only [Act.put, List.setIfInBounds_toArray, List.set_cons_zero, List.set_cons_succ]
          refine wpAnyT_done (by kernel_rfl) ?_ _
          refine NoPanic.normal ?_
          go_wp2
          go_ret
          exact ⟨by rw [HR.out]; rfl, q + 1, rfl⟩
      · obtain rfl : k = l1.length := by omega
        have hge : ¬ ((l1.length : Int) < l1.length) := by omega
        have hd : decide (l1 = l2) = true := by
          have h1 := HT.out
          rw [List.take_length, HL.out, List.take_length] at h1
          simpa using h1
        have HD := Lib.hid hd
        clear hd
        go_wp2
        go_ret
        exact ⟨by rw [HD.out]; rfl, q, rfl⟩
  · have hl' : ((l1.length : Int) != l2.length) = true := by simp; omega
    have hd : decide (l1 = l2) = false := by simp; intro e; exact hl (by rw [e])
    have HD := Lib.hid hd
    clear hl hd
    go_enter Tryz.func38, Tryz.ntmps38
    go_wp2
    go_ret
    exact ⟨by rw [HD.out]; rfl, 0, rfl⟩
set_option maxRecDepth 100000 in
set_option maxHeartbeats 800000 in
theorem c_eqInts (A1 A2 : Option Addr) (c1 c2 : Nat) (l1 l2 : List Int) (F1 F2 : Nat → Prop) (w : World) (hS1 : Kint.S w F1 A1 l1) (hS2 : Kint.S w F2 A2 l2) (hm : l1.length ≤ 1000000000) :
    Calls Tryz.prog 40 #[.slice A1 l1.length c1, .slice A2 l2.length c2] w fun e w' => e = .returned (.bool (decide (l1 = l2))) ∧ ∃ q, w' = w.drewN q := by
  by_cases hl : l1.length = l2.length
  · have hl' : ((l1.length : Int) != l2.length) = false := by simp [hl]
    have HL := Lib.hid hl
    clear hl
    go_enter Tryz.func40, Tryz.ntmps40
    go_wp2
    go_loopg [13] (l1.length + 1) (fun gk i wr => ∃ k : Nat, i = .int .i64 k ∧ k ≤ l1.length ∧ gk + k = l1.length + 1 ∧ l1.take k = l2.take k ∧ ∃ q, wr = w.drewN q)
    case atStart => exact ⟨0, rfl, by omega, by omega, by simp, 0, rfl⟩
    case round =>
      obtain ⟨k, rfl, hk, hgk, ht, q, rfl⟩ := hrel
      have HG := Lib.hid hgk
      have HT := Lib.hid ht
      clear hgk ht
      by_cases hlt : k < l1.length
      · obtain ⟨b1, o1, rfl, hF1, hb1, p1, _⟩ := S_int hS1 hlt
        have hlt2 : k < l2.length := by have := HL.out; omega
        obtain ⟨b2, o2, rfl, hF2, hb2, p2, _⟩ := S_int hS2 hlt2
        have hst := take_eq_step hlt hlt2 HT.out
        have hne : l1[k] ≠ l2[k] → l1 ≠ l2 := fun h e => h (by subst e; rfl)
        generalize l1[k] = x at *
        generalize l2[k] = y at *
        have hk0 : (0 : Int) ≤ k := by omega
        have hk1 : (k : Int) < l1.length := by omega
        have hk2 : (k : Int) < l2.length := by omega
        have HST := Lib.hid hst
        have HN := Lib.hid hne
        clear hst hne hS1 hS2
        by_cases hxy : x = y
        · have hd : (x != y) = false := by simpa using hxy
          have HX := Lib.hid hxy
          clear hxy
          go_wp2
          go_quiet (fail)
          go_wp2
          go_roundg (gk - 1)
          case measure => have := HG.out; omega
          case rel => exact ⟨k + 1, by go_num, by omega, by have := HG.out; omega, HST.out.2 HX.out, q + nq, by simp⟩
        · have hd : (x != y) = true := by simpa using hxy
          have hr : decide (l1 = l2) = false := by simpa using HN.out hxy
          have HR := Lib.hid hr
          clear hxy hr
          go_wp2
          go_quiet (fail)
          go_wp2
          go_ret
          exact ⟨by rw [HR.out]; rfl, q + nq, by simp⟩
      · obtain rfl : k = l1.length := by omega
        have hge : ¬ ((l1.length : Int) < l1.length) := by omega
        have hd : decide (l1 = l2) = true := by
          have h1 := HT.out
          rw [List.take_length, HL.out, List.take_length] at h1
          simpa using h1
        have HD := Lib.hid hd
        clear hd
        go_wp2
        go_ret
        exact ⟨by rw [HD.out]; rfl, q, rfl⟩
  · have hl' : ((l1.length : Int) != l2.length) = true := by simp; omega
    have hd : decide (l1 = l2) = false := by simp; intro e; exact hl (by rw [e])
    have HD := Lib.hid hd
    clear hl hd
    go_enter Tryz.func40, Tryz.ntmps40
    go_wp2
    go_ret
    exact ⟨by rw [HD.out]; rfl, 0, rfl⟩
set_option maxRecDepth 100000 in
set_option maxHeartbeats 800000 in
theorem c_eqRows (A1 A2 : Option Addr) (c1 c2 : Nat) (l1 l2 : List (List Int)) (F1 F2 : Nat → Prop) (w : World) (hS1 : Kints.S w F1 A1 l1) (hS2 : Kints.S w F2 A2 l2) (hm : l1.length ≤ 1000000000) (hml : ∀ l ∈ l1, l.length ≤ 1000000000) :
    Calls Tryz.prog 39 #[.slice A1 l1.length c1, .slice A2 l2.length c2, .func (.func 40) #[] #[]] w fun e w' => e = .returned (.bool (decide (l1 = l2))) ∧ ∃ q, w' = w.drewN q := by
  by_cases hl : l1.length = l2.length
  · have hl' : ((l1.length : Int) != l2.length) = false := by simp [hl]
    have HL := Lib.hid hl
    clear hl
    go_enter Tryz.func39, Tryz.ntmps39
    go_wp2
    go_loopg [17] (l1.length + 1) (fun gk i wr => ∃ k : Nat, i = .int .i64 k ∧ k ≤ l1.length ∧ gk + k = l1.length + 1 ∧ l1.take k = l2.take k ∧ ∃ q, wr = w.drewN q)
    case atStart => exact ⟨0, rfl, by omega, by omega, by simp, 0, rfl⟩
    case round =>
      obtain ⟨k, rfl, hk, hgk, ht, q, rfl⟩ := hrel
      have HG := Lib.hid hgk
      have HT := Lib.hid ht
      clear hgk ht
      by_cases hlt : k < l1.length
      · obtain ⟨b1, o1, B1, d1, rfl, hF1, hb1, p1, _, _, s1⟩ := S_slice hS1 hlt
        have hlt2 : k < l2.length := by have := HL.out; omega
        obtain ⟨b2, o2, B2, d2, rfl, hF2, hb2, p2, _, _, s2⟩ := S_slice hS2 hlt2
        have hst := take_eq_step hlt hlt2 HT.out
        have hne : l1[k] ≠ l2[k] → l1 ≠ l2 := fun h e => h (by subst e; rfl)
        have hxl := hml _ (List.getElem_mem hlt)
        generalize l1[k] = x at *
        generalize l2[k] = y at *
        have hk0 : (0 : Int) ≤ k := by omega
        have hk1 : (k : Int) < l1.length := by omega
        have hk2 : (k : Int) < l2.length := by omega
        have HST := Lib.hid hst
        have HN := Lib.hid hne
        have hcl := c_eqInts B1 B2 d1 d2 x y F1 F2 (w.drewN q) (s1.step fun _ _ _ => rfl) (s2.step fun _ _ _ => rfl) hxl
        clear hst hne hS1 hS2 s1 s2
        by_cases hxy : x = y
        · have hd : decide (x = y) = true := by simpa using hxy
          rw [hd] at hcl
          have HX := Lib.hid hxy
          clear hxy hd
          go_wp2_with (go_at_call 40; refine hcl.mono ?_; rintro e w1 ⟨rfl, q2, rfl⟩)
          go_roundg (gk - 1)
          case measure => have := HG.out; omega
          case rel => exact ⟨k + 1, by go_num, by omega, by have := HG.out; omega, HST.out.2 HX.out, q + q2, by simp⟩
        · have hd : decide (x = y) = false := by simpa using hxy
          rw [hd] at hcl
          have hr : decide (l1 = l2) = false := by simpa using HN.out hxy
          have HR := Lib.hid hr
          clear hxy hr hd
          go_wp2_with (go_at_call 40; refine hcl.mono ?_; rintro e w1 ⟨rfl, q2, rfl⟩)
          go_ret
          exact ⟨by rw [HR.out]; rfl, q + q2, by simp⟩
      · obtain rfl : k = l1.length := by omega
        have hge : ¬ ((l1.length : Int) < l1.length) := by omega
        have hd : decide (l1 = l2) = true := by
          have h1 := HT.out
          rw [List.take_length, HL.out, List.take_length] at h1
          simpa using h1
        have HD := Lib.hid hd
        clear hd
        go_wp2
        go_ret
        exact ⟨by rw [HD.out]; rfl, q, rfl⟩
  · have hl' : ((l1.length : Int) != l2.length) = true := by simp; omega
    have hd : decide (l1 = l2) = false := by simp; intro e; exact hl (by rw [e])
    have HD := Lib.hid hd
    clear hl hd
    go_enter Tryz.func39, Tryz.ntmps39
    go_wp2
    go_ret
    exact ⟨by rw [HD.out]; rfl, 0, rfl⟩
end Go.Proofs
end
