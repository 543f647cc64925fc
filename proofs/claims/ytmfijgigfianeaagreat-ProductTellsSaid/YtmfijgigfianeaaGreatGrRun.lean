/- The classes of all bytes, as a table. dfa.Run, dfa.Marks. -/
import Derived.Test.YtmfijgigfianeaaGreatGrTheirs
import Derived.Test.YtmfijgigfianeaaGreatGrFar
section
set_option linter.unusedVariables false
set_option linter.unusedSimpArgs false
namespace Rp
open Go Go.RowKit Go.Proofs
/-- A table of bytes. -/
def arrU (f : Nat → Nat) : Array Value := ((List.range 256).map fun c => Value.int .u8 (f c : Int)).toArray
theorem arrU_size (f : Nat → Nat) : (arrU f).size = 256 := by simp [arrU]
theorem arrU_at (f : Nat → Nat) (c : Nat) (hc : c < 256) : (arrU f)[c]? = some (.int .u8 (f c : Int)) := by simp [arrU, hc]
theorem arrU_one (f : Nat → Nat) : (arrU f).all (·.oneCell') = true := by
  rw [Array.all_eq_true_iff_forall_mem]
  intro v hv
  simp only [arrU, List.mem_toArray, List.mem_map] at hv
  obtain ⟨c, _, rfl⟩ := hv
  rfl
theorem arrU_zero : Array.replicate 256 (Value.int .u8 0) = arrU fun _ => 0 := by
  apply Array.ext
  · simp [arrU]
  · intro i h1 h2
    simp [arrU]
end Rp
namespace Go.Proofs
open Go.RowKit Go.Shelf Rp Go.Maps
attribute [local go_sem] Oper.semAt_some
theorem zero_tabU : Tryz.zeroCells122 = Array.replicate 256 (Value.int .u8 0) := by kernel_rfl
theorem size_tabU : (Tryz.prog.info? 122).map (·.size) = some 256 := by kernel_rfl
set_option maxRecDepth 100000 in
set_option maxHeartbeats 800000 in
theorem c_tabA (b : Nat) (l : List BSet) (F : Nat → Prop) (w : World) (h : Alph w F b l) (hn : 0 < l.length) :
    Calls Tryz.prog 87 #[.pointer (some ⟨b, 0, none⟩)] w fun e w' => e = .returned (.agg (arrU (tabF (pairsOf l)))) ∧ Below w.heap.size w w' := by
  go_enter Tryz.func87, Tryz.ntmps87
  go_upto_region 1 with (fail)
  refine wp_name fun W0 hW0 => ?_
  have q0 : W0.heap[w.heap.size]? = some (.cells (arrU fun _ => 0) 122 (0, 0)) := by
    rw [← hW0, zero_tabU, arrU_zero]; exact World.alloc_heap_new w _
  have hB0 : Below w.heap.size w W0 := by rw [← hW0]; exact (Below.refl _ _).alloc (Nat.le_refl _) _
  clear hW0
  obtain ⟨-, cs, A, cap, hH, hT, -, -, -⟩ := h.below hB0
  have hl := hT.2.2
  have hc256 := (cell_of_row W0 b 256 _ _ _ hH).trans hT.2.2
  have hr : W0.rangeAt b 0 (arrU (tabF (pairsOf l))).toList := fun j v hv => by
    rw [Nat.zero_add]
    have hj : j < 256 := by have := (List.getElem?_eq_some_iff.1 hv).1; simpa [arrU_size] using this
    have h1 := (cell_of_row W0 b j _ _ _ hH).trans (hT.2.1 j hj)
    have h2 := arrU_at (tabF (pairsOf l)) j hj
    rw [Array.getElem?_toList, h2] at hv
    rw [h1, ← hv]
  have hnn := c_alphNone b A l.length cap W0 hc256 hn
  clear hT hH hc256 h
  go_wp2_with (first
    | (go_at_call 85; refine hnn.mono ?_; rintro e w1 ⟨rfl, rfl⟩)
    | (refine wpList_load_mid rfl _ _ rfl b 0 rfl _ _ hr Tryz.underlying122 rfl (by rw [Array.length_toList, arrU_size]; exact size_tabU) ?_)
    | (refine wpList_store_all rfl _ _ _ rfl w.heap.size _ _ (arrU (tabF (pairsOf l))) rfl rfl q0 (by rw [arrU_size, arrU_size]) (by rw [arrU_size]; exact size_tabU) (arrU_one _) ?_; intro w9 hb9 hK9))
  refine bodyPost_ret (v := .agg (arrU (tabF (pairsOf l)))) (results_cell_row rfl _ _ _ _ _ _ _ rfl hb9 Tryz.underlying122 rfl (by rw [arrU_size]; exact size_tabU)) rfl ⟨rfl, hB0.trans (hK9.below hB0.size (fun k hk e => by omega))⟩
set_option maxRecDepth 100000 in
set_option maxHeartbeats 800000 in
theorem c_table (A1 A2 A3 : Option Addr) (k1 k2 k3 : Nat) (d : Dfa) (F : Nat → Prop) (w : World) (hR : DfaR w F ⟨A1, k1, A2, k2, A3, k3⟩ d) :
    Calls Tryz.prog 75 #[.agg #[.slice A1 d.cls.length k1, .slice A2 d.next.length k2, .slice A3 d.marks.length k3]] w fun e w' => e = .returned (.agg (arrU (tabF (pairsOf (partsB d.cls))))) ∧ Below w.heap.size w w' := by
  have hao := fun W' (hW' : Below w.heap.size w W') => c_alphOf A1 k1 d.cls F W' (S_below hR.s1 hW') hR.l1 hR.m1
  go_enter Tryz.func75, Tryz.ntmps75
  go_upto_region 1 with (fail)
  refine wp_name fun W0 hW0 => ?_
  have q0 : W0.heap[w.heap.size]? = some (.cells #[.slice A1 d.cls.length k1, .slice A2 d.next.length k2, .slice A3 d.marks.length k3] 25 (0, 0)) := by
    rw [← hW0]; exact (Below.heap_alloc _ _ _ (by simp)).trans (World.alloc_heap_new w _)
  have q1 : W0.heap[w.heap.size + 1]? = some (.cells (arrU fun _ => 0) 122 (0, 0)) := by
    rw [← hW0, zero_tabU, arrU_zero]
    have := World.alloc_heap_new (w.alloc (.cells #[.slice A1 d.cls.length k1, .slice A2 d.next.length k2, .slice A3 d.marks.length k3] 25)) (.cells (arrU fun _ => 0) 122)
    simpa using this
  have hB0 : Below w.heap.size w W0 := by rw [← hW0]; exact ((Below.refl _ _).alloc (Nat.le_refl _) _).alloc (by simp) _
  have hz0 : w.heap.size + 1 < W0.heap.size := by rw [← hW0]; simp
  clear hW0
  obtain ⟨c0, c1, c2⟩ := cells3 q0
  have hpp := parts_pos d.cls
  go_wp2_with (first
    | (go_at_call 69; refine (hao W0 hB0).mono ?_; rintro e w1 ⟨b, rfl, hA, hB1⟩)
    | (go_at_call 87; refine (c_tabA b _ _ w1 hA hpp).mono ?_; rintro e w2 ⟨rfl, hB2⟩
       have q2 := (hB2.block _ (Nat.lt_of_lt_of_le hz0 hB1.size)).trans ((hB1.block _ hz0).trans q1))
    | (refine wpList_store_all rfl _ _ _ rfl (w.heap.size + 1) _ _ (arrU (tabF (pairsOf (partsB d.cls)))) rfl rfl q2 (by rw [arrU_size, arrU_size]) (by rw [arrU_size]; exact size_tabU) (arrU_one _) ?_; intro w9 hb9 hK9))
  have hB02 := hB0.trans ((hB1.trans (hB2.mono hB1.size)).mono hB0.size)
  refine bodyPost_ret (v := .agg (arrU (tabF (pairsOf (partsB d.cls))))) (results_cell_row rfl _ _ _ _ _ _ _ rfl hb9 Tryz.underlying122 rfl (by rw [arrU_size]; exact size_tabU)) rfl ⟨rfl, hB02.trans (hK9.below hB02.size (fun k hk e => by omega))⟩
end Go.Proofs
end

section
set_option linter.unusedVariables false
set_option linter.unusedSimpArgs false
namespace Go.Proofs
open Go.RowKit Go.Shelf Rp Go.Maps
attribute [local go_sem] Oper.semAt_some
theorem runD_take (d : Dfa) (s : Nat) (b : List UInt8) (k : Nat) (h : k < b.length) : runD d s (b.take (k + 1)) = dlt d (runD d s (b.take k)) b[k].toNat := by
  unfold runD
  rw [List.take_succ_eq_append_getElem h, List.foldl_append]; rfl
set_option maxRecDepth 100000 in
set_option maxHeartbeats 3200000 in
theorem c_run (A1 A2 A3 : Option Addr) (k1 k2 k3 : Nat) (d : Dfa) (s : Nat) (Ab : Option Addr) (cb : Nat) (bs : List UInt8) (F G : Nat → Prop) (w : World) (hR : DfaR w F ⟨A1, k1, A2, k2, A3, k3⟩ d) (hd : rightB d = true) (hs : s < d.next.length) (hb : Kbyte.S w G Ab bs) (hbl : bs.length ≤ 9223372036854775807) :
    Calls Tryz.prog 52 #[.agg #[.slice A1 d.cls.length k1, .slice A2 d.next.length k2, .slice A3 d.marks.length k3], .int .i64 (s : Int), .slice Ab bs.length cb] w fun e w' => e = .returned (.tuple #[.int .i64 (runD d s bs : Int), .int .i64 0]) ∧ Below w.heap.size w w' := by
  have hrt := fun W' (hW' : Below w.heap.size w W') => c_right ⟨A1, k1, A2, k2, A3, k3⟩ d F W' (hR.below hW')
  have htb := fun W' (hW' : Below w.heap.size w W') => c_table A1 A2 A3 k1 k2 k3 d F W' (hR.below hW')
  rw [hd] at hrt
  rw [right_parts hd] at htb
  have hn := right_len hd
  have hn1 := hn.2.1
  have HD := Lib.hid hd
  have H2 := Lib.hid hR.s2
  simp only [dfaV, dfaC] at hrt
  clear hn hd hR
  go_enter Tryz.func52, Tryz.ntmps52
  go_upto_region 1 with (fail)
  refine wp_name fun W0 hW0 => ?_
  have q0 : W0.heap[w.heap.size]? = some (.cells #[.slice A1 d.cls.length k1, .slice A2 d.next.length k2, .slice A3 d.marks.length k3] 25 (0, 0)) := by rw [← hW0]; exact World.alloc_heap_new w _
  have hB0 : Below w.heap.size w W0 := by rw [← hW0]; exact (Below.refl _ _).alloc (Nat.le_refl _) _
  have hz0 : w.heap.size < W0.heap.size := by rw [← hW0]; simp
  clear hW0
  obtain ⟨c0, c1, c2⟩ := cells3 q0
  have hs0 : ¬ (s : Int) < 0 := by omega
  have hs1 : ¬ (d.next.length : Int) ≤ s := by omega
  go_wp2_with (first
    | (go_at_call 47; refine (hrt W0 hB0).mono ?_; rintro e w1 ⟨rfl, hB1⟩
       obtain ⟨e0, e1, e2⟩ := cells3 ((hB1.block _ hz0).trans q0))
    | (go_at_call 75; refine (htb w1 (hB0.trans (hB1.mono hB0.size))).mono ?_; rintro e w2 ⟨rfl, hB2⟩
       have q2 := World.alloc_heap_new w2 (.cells Tryz.zeroCells122 122))
    | (refine wpList_store_all rfl _ _ _ rfl w2.heap.size _ _ (arrU (tabF (pairsOf d.cls))) rfl rfl q2 (by rw [arrU_size, zero_tabU]; rfl) (by rw [arrU_size]; exact size_tabU) (arrU_one _) ?_; intro w3 hb3 hK3))
  have hB13 : Below w1.heap.size w1 w3 := (hB2.trans ((Below.refl w2.heap.size w2).alloc (Nat.le_refl _) (.cells Tryz.zeroCells122 122) |>.mono hB2.size)).trans (hK3.below (by have := hB2.size; simp; omega) (fun k hk e => by have := hB2.size; omega))
  have hBw3 := hB0.trans ((hB1.trans (hB13.mono hB1.size)).mono hB0.size)
  have q3 := ((hB1.trans (hB13.mono hB1.size)).block _ hz0).trans q0
  have hg : w2.heap.size < w3.heap.size := (Array.getElem?_eq_some_iff.1 hb3).1
  have HB3 := Lib.hid hb3
  have HQ3 := Lib.hid q3
  have HB := Lib.hid hBw3
  have hwz : w.heap.size < w3.heap.size := (Array.getElem?_eq_some_iff.1 q3).1
  clear hb3 q3 hBw3 hB13 hK3 q2 hB2 hB1 q0 hB0 hz0 hrt htb e0 e1 e2 c0 c1 c2
  go_loopg [1, 29] (bs.length + 1) (fun gk vs vk wr => ∃ (k : Nat), vs = .int .i64 (runD d s (bs.take k) : Int) ∧ vk = .int .i64 (k : Int) ∧ k ≤ bs.length ∧ gk + k = bs.length + 1 ∧ Below w3.heap.size w3 wr)
  case atStart => exact ⟨0, rfl, rfl, by omega, by omega, Below.refl _ _⟩
  case round =>
    obtain ⟨k, rfl, rfl, hk, hgk, hB⟩ := hrel
    have HG := Lib.hid hgk
    have hk0 : (0 : Int) ≤ k := by omega
    have HBr := Lib.hid hB
    have HBw := Lib.hid (HB.out.trans (hB.mono HB.out.size))
    clear hgk
    by_cases hlt : k < bs.length
    · have hlt' : (k : Int) < bs.length := by omega
      obtain ⟨bb, ob, rfl, -, -, pb⟩ := S_byte (S_below hb HBw.out) hlt
      have hst := runD_take d s bs k hlt
      have hsr := runD_lt HD.out (bs.take k) hs
      obtain ⟨z0, z1, z2⟩ := cells3 ((hB.block _ hwz).trans HQ3.out)
      generalize runD d s (bs.take k) = sr at *
      have hck : bs[k].toNat < 256 := bs[k].toNat_lt
      have zt := (cell_of_row wr w2.heap.size bs[k].toNat _ _ _ ((hB.block _ hg).trans HB3.out)).trans (arrU_at (tabF (pairsOf d.cls)) _ hck)
      have htc : tabF (pairsOf d.cls) bs[k].toNat = clsOf d.cls bs[k].toNat := by
        have := tab_clsOf d.cls hck
        rwa [right_parts HD.out] at this
      rw [htc] at zt
      have hkk := clsOf_range HD.out hck
      obtain ⟨hrl2, hra⟩ := nxK_at HD.out hsr hkk
      have hyl := nxK_lt HD.out hsr hkk
      obtain ⟨b5, o5, B5, d5, e5, -, -, z4, -, -, t5⟩ := S_slice (S_below H2.out HBw.out) hsr
      obtain rfl : A2 = some ⟨b5, o5, none⟩ := e5
      obtain ⟨b7, o7, e7, -, -, z5, -⟩ := S_int t5 (i := clsOf d.cls bs[k].toNat) (by omega)
      subst e7
      rw [List.getElem?_eq_getElem (by omega)] at hra
      rw [Option.some.inj hra] at z5
      rw [hrl2] at z4
      have hst2 : runD d s (bs.take (k + 1)) = nxK d sr (clsOf d.cls bs[k].toNat) := hst
      have HST := Lib.hid hst2
      have pb' : wr.cell? ⟨bb, ob + k, none⟩ = some (.int .u8 ((bs[k].toNat : Nat) : Int)) := pb
      have hcl4 : d.cls.length ≤ 256 := by rw [← right_parts HD.out]; exact parts_le _
      clear hst hst2 pb hra t5 htc hB
      generalize nxK d sr (clsOf d.cls bs[k].toNat) = y at *
      generalize clsOf d.cls bs[k].toNat = kk at *
      generalize bs[k].toNat = c at *
      have hsr0 : (0 : Int) ≤ sr := by omega
      have hsr1 : (sr : Int) < d.next.length := by omega
      have hc0 : (0 : Int) ≤ c := by omega
      have hc1 : (c : Int) < 256 := by omega
      have hkk0 : (0 : Int) ≤ kk := by omega
      have hkk1 : (kk : Int) < d.cls.length := by omega
      obtain ⟨SS, hSS⟩ : ∃ S : World → Prop, S = fun w' => Below wr.heap.size wr w' := ⟨_, rfl⟩
      have hSi : ∀ W', SS W' → Below wr.heap.size wr W' := fun W' h => by rw [hSS] at h; exact h
      have hS : SS wr.drew := by rw [hSS]; exact (Below.refl _ _).drew
      clear hSS
      go_wp2
      refine wp_region_noPanic (wp_region_T SS [1, 4, 7, 9] (by kernel_rfl) ?_)
      refine wpAnyT_takeY (i := 0) (v := ?v0_1) rfl (by kernel_rfl) (by kernel_rfl) (by kernel_rfl) (fun _ _ _ h => h) (by rfl) ?hy0_1 ?r0_1
      case hy0_1 => (intro w; go_simp; try (with_reducible rfl))
      case r0_1 =>
      try simp only [Act.put, List.setIfInBounds_toArray, List.set_cons_zero, List.set_cons_succ]
      refine wpAnyT_takeY (i := 2) (v := ?v2_2) rfl (by kernel_rfl) (by kernel_rfl) (by kernel_rfl) (fun _ _ _ h => h) (by rfl) ?hy2_2 ?r2_2
      case hy2_2 => (intro w; go_simp; try (with_reducible rfl))
      case r2_2 =>
      try simp only [Act.put, List.setIfInBounds_toArray, List.set_cons_zero, List.set_cons_succ]
      refine wpAnyT_takeY (i := 5) (v := ?v5_3) rfl (by kernel_rfl) (by kernel_rfl) (by kernel_rfl) (fun _ _ _ h => h) (by rfl) ?hy5_3 ?r5_3
      case hy5_3 => (intro w; go_simp; try (with_reducible rfl))
      case r5_3 =>
      try simp only [Act.put, List.setIfInBounds_toArray, List.set_cons_zero, List.set_cons_succ]
      refine wpAnyT_takeY (i := 6) (v := ?v6_4) rfl (by kernel_rfl) (by kernel_rfl) (by kernel_rfl) (fun _ _ _ h => h) (by rfl) ?hy6_4 ?r6_4
      case hy6_4 => (intro w; go_simp; try (with_reducible rfl))
      case r6_4 =>
      try simp only [Act.put, List.setIfInBounds_toArray, List.set_cons_zero, List.set_cons_succ]
      refine wpAnyT_take (i := 1) (v := ?v1_5) rfl rfl (by kernel_rfl) (by kernel_rfl) (by kernel_rfl) (fun _ _ _ h => h) (by rfl) hS ?hy1_5 ?r1_5
      case hy1_5 => (intro w hSw; have y1 := bcellS (hSi _ hSw) z1; have y4 := bcellS (hSi _ hSw) z4; have y5 := bcellS (hSi _ hSw) z5; have yt := bcellS (hSi _ hSw) zt; (try dsimp only at hSw); go_simp; try (with_reducible rfl))
      case r1_5 =>
      try simp only [Act.put, List.setIfInBounds_toArray, List.set_cons_zero, List.set_cons_succ]
      refine wpAnyT_takeY (i := 3) (v := ?v3_6) rfl (by kernel_rfl) (by kernel_rfl) (by kernel_rfl) (fun _ _ _ h => h) (by rfl) ?hy3_6 ?r3_6
      case hy3_6 => (intro w; go_simp; try (with_reducible rfl))
      case r3_6 =>
      try simp only [Act.put, List.setIfInBounds_toArray, List.set_cons_zero, List.set_cons_succ]
      refine wpAnyT_take (i := 4) (v := ?v4_7) rfl rfl (by kernel_rfl) (by kernel_rfl) (by kernel_rfl) (fun _ _ _ h => h) (by rfl) hS ?hy4_7 ?r4_7
      case hy4_7 => (intro w hSw; have y1 := bcellS (hSi _ hSw) z1; have y4 := bcellS (hSi _ hSw) z4; have y5 := bcellS (hSi _ hSw) z5; have yt := bcellS (hSi _ hSw) zt; (try dsimp only at hSw); go_simp; try (with_reducible rfl))
      case r4_7 =>
      try simp only [Act.put, List.setIfInBounds_toArray, List.set_cons_zero, List.set_cons_succ]
      refine wpAnyT_take (i := 7) (v := ?v7_8) rfl rfl (by kernel_rfl) (by kernel_rfl) (by kernel_rfl) (fun _ _ _ h => h) (by rfl) hS ?hy7_8 ?r7_8
      case hy7_8 => (intro w hSw; have y1 := bcellS (hSi _ hSw) z1; have y4 := bcellS (hSi _ hSw) z4; have y5 := bcellS (hSi _ hSw) z5; have yt := bcellS (hSi _ hSw) zt; (try dsimp only at hSw); go_simp; try (with_reducible rfl))
      case r7_8 =>
      try simp only [Act.put, List.setIfInBounds_toArray, List.set_cons_zero, List.set_cons_succ]
      refine wpAnyT_takeY (i := 8) (v := ?v8_9) rfl (by kernel_rfl) (by kernel_rfl) (by kernel_rfl) (fun _ _ _ h => h) (by rfl) ?hy8_9 ?r8_9
      case hy8_9 => (intro w; go_simp; try (with_reducible rfl))
      case r8_9 =>
      try simp only [Act.put, List.setIfInBounds_toArray, List.set_cons_zero, List.set_cons_succ]
      refine wpAnyT_take (i := 9) (v := ?v9_10) rfl rfl (by kernel_rfl) (by kernel_rfl) (by kernel_rfl) (fun _ _ _ h => h) (by rfl) hS ?hy9_10 ?r9_10
      case hy9_10 => (intro w hSw; have y1 := bcellS (hSi _ hSw) z1; have y4 := bcellS (hSi _ hSw) z4; have y5 := bcellS (hSi _ hSw) z5; have yt := bcellS (hSi _ hSw) zt; (try dsimp only at hSw); go_simp; try (with_reducible rfl))
      case r9_10 =>
      try simp only [Act.put, List.setIfInBounds_toArray, List.set_cons_zero, List.set_cons_succ]
      refine wpAnyT_takeY (i := 10) (v := ?v10_11) rfl (by kernel_rfl) (by kernel_rfl) (by kernel_rfl) (fun _ _ _ h => h) (by rfl) ?hy10_11 ?r10_11
      case hy10_11 => (intro w; go_simp; try (with_reducible rfl))
      case r10_11 =>
      try simp only [Act.put, List.setIfInBounds_toArray, List.set_cons_zero, List.set_cons_succ]
      refine wpAnyT_done (by kernel_rfl) ?_ _
      refine NoPanic.normal ?_
      go_wp2
      go_roundg (gk - 1)
      case measure => have := HG.out; omega
      case rel => exact ⟨k + 1, by rw [HST.out], by go_num, by omega, by have := HG.out; omega, HBr.out.drew⟩
    · obtain rfl : k = bs.length := by omega
      have hge : ¬ ((bs.length : Int) < bs.length) := by omega
      rw [List.take_length]
      clear hB
      go_wp2
      go_ret2
      exact ⟨rfl, HBw.out⟩
set_option maxRecDepth 100000 in
set_option maxHeartbeats 800000 in
theorem c_marks (A1 A2 A3 : Option Addr) (k1 k2 k3 : Nat) (d : Dfa) (Ab : Option Addr) (cb : Nat) (bs : List UInt8) (F G : Nat → Prop) (w : World) (hR : DfaR w F ⟨A1, k1, A2, k2, A3, k3⟩ d) (hd : rightB d = true) (hb : Kbyte.S w G Ab bs) (hbl : bs.length ≤ 9223372036854775807) :
    Calls Tryz.prog 25 #[.agg #[.slice A1 d.cls.length k1, .slice A2 d.next.length k2, .slice A3 d.marks.length k3], .slice Ab bs.length cb] w
      fun e w' => ∃ v, e = .returned (.tuple #[v, .int .i64 0]) ∧ OwnS Kint 3 w' w.heap.size (fun k => w.heap.size ≤ k) v (d.marks.getD (runD d 0 bs) []) ∧ Below w.heap.size w w' := by
  have hn := right_len hd
  have hru := fun W' (hW' : Below w.heap.size w W') => c_run A1 A2 A3 k1 k2 k3 d 0 Ab cb bs F G W' (hR.below hW') hd (by omega) (S_below hb hW') hbl
  have hlt := runD_lt hd bs (s := 0) (by omega)
  have hltm : runD d 0 bs < d.marks.length := by omega
  have hsz := (right_sizes hd).b5 _ (List.getElem_mem hltm)
  have hge : d.marks.getD (runD d 0 bs) [] = d.marks[runD d 0 bs] := by simp [List.getD_eq_getElem?_getD, List.getElem?_eq_getElem hltm]
  rw [hge]
  have H3 := Lib.hid hR.s3
  have hn1 := hn.2.1
  clear hR hd hb hn hge
  go_enter Tryz.func25, Tryz.ntmps25
  go_upto_region 1 with (fail)
  refine wp_name fun W0 hW0 => ?_
  have q0 : W0.heap[w.heap.size]? = some (.cells #[.slice A1 d.cls.length k1, .slice A2 d.next.length k2, .slice A3 d.marks.length k3] 25 (0, 0)) := by rw [← hW0]; exact World.alloc_heap_new w _
  have hB0 : Below w.heap.size w W0 := by rw [← hW0]; exact (Below.refl _ _).alloc (Nat.le_refl _) _
  have hz0 : w.heap.size < W0.heap.size := by rw [← hW0]; simp
  clear hW0
  obtain ⟨c0, c1, c2⟩ := cells3 q0
  have hr0 : (0 : Int) ≤ (runD d 0 bs : Int) := by omega
  have hr1 : (runD d 0 bs : Int) < d.marks.length := by omega
  have hr2 : (runD d 0 bs : Int) ≤ 4000 := by omega
  have hru0 := hru W0 hB0
  have e0 : ((0 : Nat) : Int) = 0 := rfl
  rw [e0] at hru0
  clear e0 hru hlt
  generalize runD d 0 bs = r at *
  go_upto_region 4 with (go_at_call 52; refine hru0.mono ?_; rintro e w1 ⟨rfl, hB1⟩; obtain ⟨e0, e1, e2⟩ := cells3 ((hB1.block _ hz0).trans q0))
  have hBw := hB0.trans (hB1.mono hB0.size)
  obtain ⟨b3, o3, B3, d3, rfl, -, -, p3, -, -, t3⟩ := S_slice (S_below H3.out hBw) hltm
  have hcl := c_cloneInt B3 d3 d.marks[r] _ w1 t3.bound (fun _ h => h.2) hsz
  obtain ⟨ms, hms⟩ : ∃ ms, d.marks[r] = ms := ⟨_, rfl⟩
  rw [hms] at hcl p3
  have HMS := Lib.hid hms
  clear hms hsz t3 c0 c1 c2 hru0
  go_wp2_with (go_at_call 37; refine hcl.mono ?_; rintro e w2 ⟨v, rfl, hO, hB2⟩)
  go_ret2
  exact ⟨v, rfl, by rw [HMS.out]; exact (OwnS.tight tightInt hO).lower hBw.size |>.mono fun k hk => Nat.le_trans hBw.size hk, hBw.trans (hB2.mono hBw.size)⟩
end Go.Proofs
end
