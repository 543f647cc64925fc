/- The reference's near: the walk. The reference's First: the walk. The reference's Parts. -/
import Derived.Test.YtmfijgigfianeaaGreatGrNear
import Derived.Test.YtmfijgigfianeaaGreatGrOfU
import Derived.Test.YtmfijgigfianeaaGreatGrFirst
section
set_option linter.unusedVariables false
set_option linter.unusedSimpArgs false
namespace Rp
open Go Go.RowKit Go.Proofs
theorem ints_at (l : List Nat) {i : Nat} (h : i < l.length) : (intsOf l)[i]? = some ((l.getD i 0 : Nat) : Int) := by
  simp [intsOf, List.getElem?_eq_getElem h]
theorem ints_set (l : List Nat) (i x : Nat) : (intsOf l).set i (x : Int) = intsOf (l.set i x) := by
  simp [intsOf, List.map_set]
theorem ints_rep (n : Nat) : List.replicate n (0 : Int) = intsOf (List.replicate n 0) := by simp [intsOf]
/-- The first k distances are laid. -/
def farTo (d : Dfa) (k : Nat) : List Nat := (far0 d).take k ++ List.replicate (d.next.length - k) 0
theorem farTo_succ {d : Dfa} {k : Nat} (hk : k < d.next.length) (hm : k < d.marks.length) : farTo d (k + 1) = if d.marks[k].length = 0 then (farTo d k).set k d.next.length else farTo d k := by
  have hl : ((far0 d).take k).length = k := by simp [far0]; omega
  have e1 : (far0 d).take (k + 1) = (far0 d).take k ++ [if d.marks[k].length = 0 then d.next.length else 0] := by
    rw [List.take_succ_eq_append_getElem (by simp [far0]; omega)]; simp [far0]
  have e2 : List.replicate (d.next.length - k) 0 = 0 :: List.replicate (d.next.length - (k + 1)) 0 := by
    rw [show d.next.length - k = (d.next.length - (k + 1)) + 1 by omega, List.replicate_succ]
  unfold farTo
  rw [e1, e2]
  split
  · rw [List.set_append_right _ _ (by omega), hl, Nat.sub_self, List.set_cons_zero, List.append_assoc]; rfl
  · rw [List.append_assoc]; rfl
theorem farTo_zero (d : Dfa) : farTo d 0 = List.replicate d.next.length 0 := by simp [farTo]
theorem farTo_all {d : Dfa} (h : d.marks.length = d.next.length) : farTo d d.next.length = far0 d := by
  unfold farTo
  rw [Nat.sub_self, List.replicate_zero, List.append_nil, List.take_of_length_le (by simp [far0]; omega)]
theorem farTo_len {d : Dfa} (h : d.marks.length = d.next.length) {k : Nat} (hk : k ≤ d.next.length) : (farTo d k).length = d.next.length := by
  simp [farTo, far0]; omega
theorem nxK_lt {d : Dfa} (hd : rightB d = true) {s k : Nat} (hs : s < d.next.length) (hk : k < d.cls.length) : nxK d s k < d.next.length := by
  obtain ⟨hc, _⟩ := first_of_cls hd hk
  have hlt := dlt_lt hd hs (first_lt d.cls[k])
  rwa [dlt_nxK, hc] at hlt
theorem nxK_at {d : Dfa} (hd : rightB d = true) {s k : Nat} (hs : s < d.next.length) (hk : k < d.cls.length) : d.next[s].length = d.cls.length ∧ d.next[s][k]? = some ((nxK d s k : Nat) : Int) := by
  obtain ⟨hl, hr⟩ := right_row hd hs
  have hk2 : k < d.next[s].length := by omega
  have hx := hr _ (List.getElem_mem hk2)
  refine ⟨hl, ?_⟩
  rw [List.getElem?_eq_getElem hk2]
  simp [nxK, List.getD_eq_getElem?_getD, List.getElem?_eq_getElem hs, List.getElem?_eq_getElem hk2]
  omega
end Rp
namespace Go.Proofs
open Go.RowKit Go.Shelf Rp Go.Maps
attribute [local go_sem] Oper.semAt_some
set_option maxRecDepth 100000 in
set_option maxHeartbeats 3200000 in
theorem c_near0 (A1 A2 A3 : Option Addr) (k1 k2 k3 : Nat) (d : Dfa) (F : Nat → Prop) (w : World) (s2 : Kints.S w F A2 d.next) (s3 : Kints.S w F A3 d.marks) (hd : rightB d = true) :
    Calls Tryz.prog 58 #[.agg #[.slice A1 d.cls.length k1, .slice A2 d.next.length k2, .slice A3 d.marks.length k3]] w
      fun e w' => ∃ g far, e = .returned (.slice (some ⟨g, 0, none⟩) d.next.length d.next.length) ∧ Dist d far ∧ OwnS Kint 3 w' w.heap.size (fun j => w.heap.size ≤ j) (.slice (some ⟨g, 0, none⟩) d.next.length d.next.length) (intsOf far) ∧ Below w.heap.size w w' := by
  have hn := right_len hd
  have hmi := run_make1 (P := Tryz.prog) 36 3 (.int .i64 0) 8 d.next.length Tryz.underlying36 info_int rfl (by omega) (by omega)
  have hn0 := hn.1
  have hn1 := hn.2.1
  have HML := Lib.hid hn.2.2
  have hcl : d.cls.length ≤ 256 := by rw [← right_parts hd]; exact parts_le _
  have HD := Lib.hid hd
  clear hn hd
  go_enter Tryz.func58, Tryz.ntmps58
  go_wp2_with fail
  refine wp_name fun W1 hW1 => ?_
  have q0 : W1.heap[w.heap.size]? = some (.cells #[.slice A1 d.cls.length k1, .slice A2 d.next.length k2, .slice A3 d.marks.length k3] 42 (0, 0)) := by
    rw [← hW1]; exact (Below.heap_alloc _ _ _ (by simp)).trans (World.alloc_heap_new w _)
  have hE1 : Ext w W1 := by rw [← hW1]; exact ((Ext.refl _).alloc _).alloc _
  have hz1 : W1.heap.size = w.heap.size + 2 := by rw [← hW1]; simp
  have hO1 : OwnS Kint 3 W1 w.heap.size (fun j => j = w.heap.size + 1) (.slice (some ⟨w.heap.size + 1, 0, none⟩) d.next.length d.next.length) (intsOf (farTo d 0)) := by
    rw [farTo_zero, ← ints_rep, ← hW1]
    have := OwnS.made (enc := Value.int .i64) (ok := inI64) (h1 := fun _ => rfl) (w.alloc (.cells #[.slice A1 d.cls.length k1, .slice A2 d.next.length k2, .slice A3 d.marks.length k3] 42)) 3 w.heap.size d.next.length (fun j => j = w.heap.size + 1) 0 (by constructor <;> omega) (by simp) (by simp) (by omega)
    rw [World.size_alloc] at this
    exact this
  clear hW1 hmi
  have HQ0 := Lib.hid q0
  clear q0
  go_loopg [5] (d.next.length + 1) (fun gk vk wr => ∃ (k : Nat), vk = .int .i64 (k : Int) ∧ k ≤ d.next.length ∧ gk + k = d.next.length + 1 ∧ OwnS Kint 3 wr w.heap.size (fun j => j = w.heap.size + 1) (.slice (some ⟨w.heap.size + 1, 0, none⟩) d.next.length d.next.length) (intsOf (farTo d k)) ∧ Kp (fun j => j = w.heap.size + 1) W1 wr)
  case atStart => exact ⟨0, rfl, by omega, by omega, hO1, Kp.refl _ _⟩
  case round =>
    obtain ⟨k, rfl, hk, hgk, hO, hK⟩ := hrel
    have HG := Lib.hid hgk
    have hk0 : (0 : Int) ≤ k := by omega
    have hq0 := hK.heap HQ0.out (by omega)
    have hBwr : Below w.heap.size w wr := hE1.below.trans (hK.below hE1.size (fun j hj e => by omega))
    have hzr := hK.size
    have HO := Lib.hid hO
    have HK := Lib.hid hK
    have HQr := Lib.hid hq0
    clear hgk hO hK hO1
    by_cases hlt : k < d.next.length
    · have hlt' : (k : Int) < d.next.length := by omega
      have hltm : k < d.marks.length := by rw [HML.out]; exact hlt
      have hltm' : (k : Int) < d.marks.length := by omega
      obtain ⟨c0, c1, c2⟩ := cells3 hq0
      obtain ⟨b3, o3, B3, d3, rfl, hF3, hb3, p3, _, _, _⟩ := S_slice (S_below s3 hBwr) hltm
      have hfs := farTo_succ hlt hltm
      have hfl := farTo_len HML.out (k := k) (by omega)
      have HFS := Lib.hid hfs
      have HFL := Lib.hid hfl
      obtain ⟨m0, mf, mb, _, _, _⟩ := HO.out.at1 (Rp.ints_at (farTo d k) (i := k) (by omega))
      have mf0 := mf k
      clear hfs hfl mf hq0 hBwr
      generalize d.marks[k] = mk at *
      by_cases hm : mk.length = 0
      · have hm' : ((mk.length : Int) == 0) = true := by rw [hm]; rfl
        have HM := Lib.hid hm
        clear hm
        go_wp2
        go_roundg (gk - 1)
        case measure => have := HG.out; omega
        case rel =>
          refine ⟨k + 1, by go_num, by omega, by have := HG.out; omega, ?_, HK.out.setCell ⟨w.heap.size + 1, k, none⟩ rfl _⟩
          rw [HFS.out, if_pos HM.out, ← ints_set]
          exact HO.out.set (by rw [show (intsOf (farTo d k)).length = (farTo d k).length by simp [intsOf], HFL.out]; exact hlt) (by constructor <;> omega)
      · have hm' : ((mk.length : Int) == 0) = false := by rw [beq_eq_false_iff_ne]; omega
        have HM := Lib.hid hm
        clear hm
        go_wp2
        go_roundg (gk - 1)
        case measure => have := HG.out; omega
        case rel =>
          refine ⟨k + 1, by go_num, by omega, by have := HG.out; omega, ?_, HK.out⟩
          rw [HFS.out, if_neg HM.out]
          exact HO.out
    · obtain rfl : k = d.next.length := by omega
      have hge : ¬ ((d.next.length : Int) < d.next.length) := by omega
      have hO2 := HO.out
      rw [farTo_all HML.out] at hO2
      clear hq0 hBwr HO HG
      go_wp2
      go_loopg [6] (d.next.length + 1) (fun gk vk wr => ∃ (r : Nat) (far : List Nat), vk = .int .i64 (r : Int) ∧ r ≤ d.next.length ∧ gk + r = d.next.length + 1 ∧ Rnd d far r 0 0 ∧ OwnS Kint 3 wr w.heap.size (fun j => j = w.heap.size + 1) (.slice (some ⟨w.heap.size + 1, 0, none⟩) d.next.length d.next.length) (intsOf far) ∧ Kp (fun j => j = w.heap.size + 1) W1 wr)
      case atStart => exact ⟨0, far0 d, rfl, by omega, by omega, Rnd.start HD.out, hO2, HK.out⟩
      case round =>
        obtain ⟨r, far, rfl, hr, hgk, hR, hO, hK⟩ := hrel
        have HG := Lib.hid hgk
        have hr0 : (0 : Int) ≤ r := by omega
        have HR := Lib.hid hR
        have HO := Lib.hid hO
        have HK := Lib.hid hK
        clear hgk hR hO hK hO2
        by_cases hlt : r < d.next.length
        · have hlt' : (r : Int) < d.next.length := by omega
          obtain ⟨gk1, rfl⟩ : ∃ x : Nat, x = gk := ⟨_, rfl⟩
          go_wp2
          go_loopg [7] (d.next.length + 1) (fun gk vk wr => ∃ (s : Nat) (far : List Nat), vk = .int .i64 (s : Int) ∧ s ≤ d.next.length ∧ gk + s = d.next.length + 1 ∧ Rnd d far r s 0 ∧ OwnS Kint 3 wr w.heap.size (fun j => j = w.heap.size + 1) (.slice (some ⟨w.heap.size + 1, 0, none⟩) d.next.length d.next.length) (intsOf far) ∧ Kp (fun j => j = w.heap.size + 1) W1 wr)
          case atStart => exact ⟨0, far, rfl, by omega, by omega, HR.out, HO.out, HK.out⟩
          case round =>
            obtain ⟨s, far2, rfl, hs, hgk, hR, hO, hK⟩ := hrel
            have HG2 := Lib.hid hgk
            have hs0 : (0 : Int) ≤ s := by omega
            have HR2 := Lib.hid hR
            have HO2 := Lib.hid hO
            have HK2 := Lib.hid hK
            clear hgk hR hO hK
            by_cases hlt2 : s < d.next.length
            · have hlt2' : (s : Int) < d.next.length := by omega
              obtain ⟨gk2, rfl⟩ : ∃ x : Nat, x = gk := ⟨_, rfl⟩
              go_wp2
              go_loopg [8] (d.cls.length + 1) (fun gk vk wr => ∃ (k : Nat) (far : List Nat), vk = .int .i64 (k : Int) ∧ k ≤ d.cls.length ∧ gk + k = d.cls.length + 1 ∧ Rnd d far r s k ∧ OwnS Kint 3 wr w.heap.size (fun j => j = w.heap.size + 1) (.slice (some ⟨w.heap.size + 1, 0, none⟩) d.next.length d.next.length) (intsOf far) ∧ Kp (fun j => j = w.heap.size + 1) W1 wr)
              case atStart => exact ⟨0, far2, rfl, by omega, by omega, HR2.out, HO2.out, HK2.out⟩
              case round =>
                obtain ⟨k, fr, rfl, hk, hgk, hR, hO, hK⟩ := hrel
                have HG3 := Lib.hid hgk
                have hk0 : (0 : Int) ≤ k := by omega
                have hq0 := hK.heap HQ0.out (by omega)
                obtain ⟨c0, c1, c2⟩ := cells3 hq0
                have hBwr : Below w.heap.size w wr := hE1.below.trans (hK.below hE1.size (fun j hj e => by omega))
                have HR3 := Lib.hid hR
                have HO3 := Lib.hid hO
                have HK3 := Lib.hid hK
                clear hgk hR hO hK hq0
                by_cases hlt3 : k < d.cls.length
                · have hlt3' : (k : Int) < d.cls.length := by omega
                  obtain ⟨hrl, hra⟩ := nxK_at HD.out hlt2 hlt3
                  have hyl := nxK_lt HD.out hlt2 hlt3
                  have hst := HR3.out.step HD.out hlt2 hlt3
                  obtain ⟨b5, o5, B5, d5, e5, _, _, z1, _, _, t5⟩ := S_slice (S_below s2 hBwr) hlt2
                  obtain rfl : A2 = some ⟨b5, o5, none⟩ := e5
                  obtain ⟨b7, o7, e7, _, _, z2, _⟩ := S_int t5 (i := k) (by omega)
                  subst e7
                  rw [List.getElem?_eq_getElem (by omega)] at hra
                  rw [Option.some.inj hra, ] at z2
                  rw [hrl] at z1
                  have hfl := HR3.out.fr.len
                  obtain ⟨z3, mf, mb, _, _, _⟩ := HO3.out.at1 (Rp.ints_at fr (i := nxK d s k) (by omega))
                  obtain ⟨z4, _, _, _, _, _⟩ := HO3.out.at1 (Rp.ints_at fr (i := s) (by omega))
                  have mf0 := mf s
                  have hrg1 := HR3.out.fr.rng _ hyl
                  have hrg2 := HR3.out.fr.rng _ hlt2
                  have z0 := c1
                  have HST := Lib.hid hst
                  have HFL := Lib.hid hfl
                  have hrx : relax fr s (nxK d s k) = if fr.getD (nxK d s k) 0 + 1 < fr.getD s 0 then fr.set s (fr.getD (nxK d s k) 0 + 1) else fr := rfl
                  have HRX := Lib.hid hrx
                  clear hst hra hrx t5 mf hfl
                  generalize nxK d s k = y at *
                  generalize hxy : fr.getD y 0 = xy at *
                  generalize hxs : fr.getD s 0 = xs at *
                  clear hxy hxs
                  have hy0 : (0 : Int) ≤ y := by omega
                  have hy1 : (y : Int) < d.next.length := by omega
                  have hwr : IntKind.i64.wrap ((xy : Int) + 1) = xy + 1 := by rw [IntKind.wrap_i64]; omega
                  obtain ⟨SS, hSS⟩ : ∃ S : World → Prop, S = fun w' => Below wr.heap.size wr w' := ⟨_, rfl⟩
                  have hSi : ∀ W', SS W' → Below wr.heap.size wr W' := fun W' h => by rw [hSS] at h; exact h
                  have hS : SS wr.drew := by rw [hSS]; exact (Below.refl _ _).drew
                  clear hSS
                  go_wp2
                  refine wp_region_noPanic (wp_region_T SS [2, 5, 8, 10, 15] (by kernel_rfl) ?_)
                  refine wpAnyT_takeY (i := 0) (v := ?v0_1) rfl (by kernel_rfl) (by kernel_rfl) (by kernel_rfl) (fun _ _ _ h => h) (by rfl) ?hy0_1 ?r0_1
                  case hy0_1 => (intro w; go_simp; try (with_reducible rfl))
                  case r0_1 =>
                  try simp only [Act.put, List.setIfInBounds_toArray, List.set_cons_zero, List.set_cons_succ]
                  refine wpAnyT_takeY (i := 1) (v := ?v1_2) rfl (by kernel_rfl) (by kernel_rfl) (by kernel_rfl) (fun _ _ _ h => h) (by rfl) ?hy1_2 ?r1_2
                  case hy1_2 => (intro w; go_simp; try (with_reducible rfl))
                  case r1_2 =>
                  try simp only [Act.put, List.setIfInBounds_toArray, List.set_cons_zero, List.set_cons_succ]
                  refine wpAnyT_takeY (i := 3) (v := ?v3_3) rfl (by kernel_rfl) (by kernel_rfl) (by kernel_rfl) (fun _ _ _ h => h) (by rfl) ?hy3_3 ?r3_3
                  case hy3_3 => (intro w; go_simp; try (with_reducible rfl))
                  case r3_3 =>
                  try simp only [Act.put, List.setIfInBounds_toArray, List.set_cons_zero, List.set_cons_succ]
                  refine wpAnyT_takeY (i := 6) (v := ?v6_4) rfl (by kernel_rfl) (by kernel_rfl) (by kernel_rfl) (fun _ _ _ h => h) (by rfl) ?hy6_4 ?r6_4
                  case hy6_4 => (intro w; go_simp; try (with_reducible rfl))
                  case r6_4 =>
                  try simp only [Act.put, List.setIfInBounds_toArray, List.set_cons_zero, List.set_cons_succ]
                  refine wpAnyT_takeY (i := 12) (v := ?v12_5) rfl (by kernel_rfl) (by kernel_rfl) (by kernel_rfl) (fun _ _ _ h => h) (by rfl) ?hy12_5 ?r12_5
                  case hy12_5 => (intro w; go_simp; try (with_reducible rfl))
                  case r12_5 =>
                  try simp only [Act.put, List.setIfInBounds_toArray, List.set_cons_zero, List.set_cons_succ]
                  refine wpAnyT_takeY (i := 13) (v := ?v13_6) rfl (by kernel_rfl) (by kernel_rfl) (by kernel_rfl) (fun _ _ _ h => h) (by rfl) ?hy13_6 ?r13_6
                  case hy13_6 => (intro w; go_simp; try (with_reducible rfl))
                  case r13_6 =>
                  try simp only [Act.put, List.setIfInBounds_toArray, List.set_cons_zero, List.set_cons_succ]
                  refine wpAnyT_takeY (i := 14) (v := ?v14_7) rfl (by kernel_rfl) (by kernel_rfl) (by kernel_rfl) (fun _ _ _ h => h) (by rfl) ?hy14_7 ?r14_7
                  case hy14_7 => (intro w; go_simp; try (with_reducible rfl))
                  case r14_7 =>
                  try simp only [Act.put, List.setIfInBounds_toArray, List.set_cons_zero, List.set_cons_succ]
                  refine wpAnyT_take (i := 2) (v := ?v2_8) rfl rfl (by kernel_rfl) (by kernel_rfl) (by kernel_rfl) (fun _ _ _ h => h) (by rfl) hS ?hy2_8 ?r2_8
                  case hy2_8 => (intro w hSw; have e0 := bcellS (hSi _ hSw) z0; have e1 := bcellS (hSi _ hSw) z1; have e2 := bcellS (hSi _ hSw) z2; have e3 := bcellS (hSi _ hSw) z3; have e4 := bcellS (hSi _ hSw) z4; (try dsimp only at hSw); go_simp; try (with_reducible rfl))
                  case r2_8 =>
                  try simp only [Act.put, List.setIfInBounds_toArray, List.set_cons_zero, List.set_cons_succ]
                  refine wpAnyT_takeY (i := 4) (v := ?v4_9) rfl (by kernel_rfl) (by kernel_rfl) (by kernel_rfl) (fun _ _ _ h => h) (by rfl) ?hy4_9 ?r4_9
                  case hy4_9 => (intro w; go_simp; try (with_reducible rfl))
                  case r4_9 =>
                  try simp only [Act.put, List.setIfInBounds_toArray, List.set_cons_zero, List.set_cons_succ]
                  refine wpAnyT_take (i := 5) (v := ?v5_10) rfl rfl (by kernel_rfl) (by kernel_rfl) (by kernel_rfl) (fun _ _ _ h => h) (by rfl) hS ?hy5_10 ?r5_10
                  case hy5_10 => (intro w hSw; have e0 := bcellS (hSi _ hSw) z0; have e1 := bcellS (hSi _ hSw) z1; have e2 := bcellS (hSi _ hSw) z2; have e3 := bcellS (hSi _ hSw) z3; have e4 := bcellS (hSi _ hSw) z4; (try dsimp only at hSw); go_simp; try (with_reducible rfl))
                  case r5_10 =>
                  try simp only [Act.put, List.setIfInBounds_toArray, List.set_cons_zero, List.set_cons_succ]
                  refine wpAnyT_takeY (i := 7) (v := ?v7_11) rfl (by kernel_rfl) (by kernel_rfl) (by kernel_rfl) (fun _ _ _ h => h) (by rfl) ?hy7_11 ?r7_11
                  case hy7_11 => (intro w; go_simp; try (with_reducible rfl))
                  case r7_11 =>
                  try simp only [Act.put, List.setIfInBounds_toArray, List.set_cons_zero, List.set_cons_succ]
                  refine wpAnyT_take (i := 8) (v := ?v8_12) rfl rfl (by kernel_rfl) (by kernel_rfl) (by kernel_rfl) (fun _ _ _ h => h) (by rfl) hS ?hy8_12 ?r8_12
                  case hy8_12 => (intro w hSw; have e0 := bcellS (hSi _ hSw) z0; have e1 := bcellS (hSi _ hSw) z1; have e2 := bcellS (hSi _ hSw) z2; have e3 := bcellS (hSi _ hSw) z3; have e4 := bcellS (hSi _ hSw) z4; (try dsimp only at hSw); go_simp; try (with_reducible rfl))
                  case r8_12 =>
                  try simp only [Act.put, List.setIfInBounds_toArray, List.set_cons_zero, List.set_cons_succ]
                  refine wpAnyT_takeY (i := 9) (v := ?v9_13) rfl (by kernel_rfl) (by kernel_rfl) (by kernel_rfl) (fun _ _ _ h => h) (by rfl) ?hy9_13 ?r9_13
                  case hy9_13 => (intro w; go_simp; try (with_reducible rfl))
                  case r9_13 =>
                  try simp only [Act.put, List.setIfInBounds_toArray, List.set_cons_zero, List.set_cons_succ]
                  refine wpAnyT_take (i := 10) (v := ?v10_14) rfl rfl (by kernel_rfl) (by kernel_rfl) (by kernel_rfl) (fun _ _ _ h => h) (by rfl) hS ?hy10_14 ?r10_14
                  case hy10_14 => (intro w hSw; have e0 := bcellS (hSi _ hSw) z0; have e1 := bcellS (hSi _ hSw) z1; have e2 := bcellS (hSi _ hSw) z2; have e3 := bcellS (hSi _ hSw) z3; have e4 := bcellS (hSi _ hSw) z4; (try dsimp only at hSw); go_simp; try (with_reducible rfl))
                  case r10_14 =>
                  try simp only [Act.put, List.setIfInBounds_toArray, List.set_cons_zero, List.set_cons_succ]
                  refine wpAnyT_takeY (i := 11) (v := ?v11_15) rfl (by kernel_rfl) (by kernel_rfl) (by kernel_rfl) (fun _ _ _ h => h) (by rfl) ?hy11_15 ?r11_15
                  case hy11_15 => (intro w; go_simp; try (with_reducible rfl))
                  case r11_15 =>
                  try simp only [Act.put, List.setIfInBounds_toArray, List.set_cons_zero, List.set_cons_succ]
                  refine wpAnyT_take (i := 15) (v := ?v15_16) rfl rfl (by kernel_rfl) (by kernel_rfl) (by kernel_rfl) (fun _ _ _ h => h) (by rfl) hS ?hy15_16 ?r15_16
                  case hy15_16 => (intro w hSw; have e0 := bcellS (hSi _ hSw) z0; have e1 := bcellS (hSi _ hSw) z1; have e2 := bcellS (hSi _ hSw) z2; have e3 := bcellS (hSi _ hSw) z3; have e4 := bcellS (hSi _ hSw) z4; (try dsimp only at hSw); go_simp; try (with_reducible rfl))
                  case r15_16 =>
                  try simp only [Act.put, List.setIfInBounds_toArray, List.set_cons_zero, List.set_cons_succ]
                  refine wpAnyT_takeY (i := 16) (v := ?v16_17) rfl (by kernel_rfl) (by kernel_rfl) (by kernel_rfl) (fun _ _ _ h => h) (by rfl) ?hy16_17 ?r16_17
                  case hy16_17 => (intro w; go_simp; try (with_reducible rfl))
                  case r16_17 =>
                  try simp only [Act.put, List.setIfInBounds_toArray, List.set_cons_zero, List.set_cons_succ]
                  refine wpAnyT_done (by kernel_rfl) ?_ _
                  refine NoPanic.normal ?_
                  obtain ⟨W12, hW12⟩ : ∃ y, y = wr.drew := ⟨_, rfl⟩
                  have hOd := HO3.out.step (w1 := wr.drew) fun _ _ _ => rfl
                  have hKd := HK3.out.drew
                  have hBd : Below wr.heap.size wr wr.drew := (Below.refl _ _).drew
                  rw [← hW12] at hOd hKd hBd ⊢
                  have z0 := bcellS hBd z0
                  have z1 := bcellS hBd z1
                  have z2 := bcellS hBd z2
                  have z3 := bcellS hBd z3
                  have z4 := bcellS hBd z4
                  have mfd : W12.frozen? ⟨w.heap.size + 1, s, none⟩ = false := by rw [hW12]; exact mf0
                  have mbd : w.heap.size + 1 < W12.heap.size := by rw [hW12]; exact mb
                  have HOd := Lib.hid hOd
                  have HKd := Lib.hid hKd
                  clear hW12 hOd hKd hBd hS hSi
                  by_cases hx : xy + 1 < xs
                  · have hx' : ((xy : Int) + 1 < xs) := by omega
                    have hxd : decide ((xy : Int) + 1 < xs) = true := by simpa using hx'
                    have HX := Lib.hid hx
                    clear hx
                    go_wp2
                    go_roundg (gk - 1)
                    case measure => have := HG3.out; omega
                    case rel =>
                      have hst := HST.out
                      rw [HRX.out, if_pos HX.out] at hst
                      refine ⟨k + 1, _, by go_num, by omega, by have := HG3.out; omega, hst, ?_, HKd.out.setCell ⟨w.heap.size + 1, s, none⟩ rfl _⟩
                      rw [← ints_set]
                      exact HOd.out.set (by rw [show (intsOf fr).length = fr.length by simp [intsOf], HFL.out]; exact hlt2) (by constructor <;> omega)
                  · have hx' : ¬ ((xy : Int) + 1 < xs) := by omega
                    have hxd : decide ((xy : Int) + 1 < xs) = false := by simpa using hx'
                    have HX := Lib.hid hx
                    clear hx
                    go_wp2
                    go_roundg (gk - 1)
                    case measure => have := HG3.out; omega
                    case rel =>
                      have hst := HST.out
                      rw [HRX.out, if_neg HX.out] at hst
                      exact ⟨k + 1, _, by go_num, by omega, by have := HG3.out; omega, hst, HOd.out, HKd.out⟩
                · obtain rfl : k = d.cls.length := by omega
                  have hge3 : ¬ ((d.cls.length : Int) < d.cls.length) := by omega
                  clear hBwr
                  go_wp2
                  go_roundg (gk2 - 1)
                  case measure => have := HG2.out; omega
                  case rel => exact ⟨s + 1, fr, by go_num, by omega, by have := HG2.out; omega, HR3.out.next HD.out, HO3.out, HK3.out⟩
            · obtain rfl : s = d.next.length := by omega
              have hge2 : ¬ ((d.next.length : Int) < d.next.length) := by omega
              go_wp2
              go_roundg (gk1 - 1)
              case measure => have := HG.out; omega
              case rel => exact ⟨r + 1, far2, by go_num, by omega, by have := HG.out; omega, HR2.out.turn, HO2.out, HK2.out⟩
        · obtain rfl : r = d.next.length := by omega
          have hge1 : ¬ ((d.next.length : Int) < d.next.length) := by omega
          go_wp2
          go_ret
          exact ⟨w.heap.size + 1, rfl, far, HR.out.dist, HO.out.mono fun j hj => by omega, hE1.below.trans (HK.out.below hE1.size (fun j hj e => by omega))⟩
end Go.Proofs
end

section
set_option linter.unusedVariables false
set_option linter.unusedSimpArgs false
namespace Go.Proofs
open Go.RowKit Go.Shelf Rp Go.Maps
attribute [local go_sem] Oper.semAt_some
set_option maxRecDepth 100000 in
set_option maxHeartbeats 3200000 in
theorem c_refFirst0 (A1 A2 A3 : Option Addr) (k1 k2 k3 : Nat) (d : Dfa) (F : Nat → Prop) (w : World) (s1 : Kref.S w F A1 d.cls) (s2 : Kints.S w F A2 d.next) (s3 : Kints.S w F A3 d.marks) (hd : rightB d = true) :
    Calls Tryz.prog 31 #[.agg #[.slice A1 d.cls.length k1, .slice A2 d.next.length k2, .slice A3 d.marks.length k3]] w
      fun e w' => ∃ r v, FirstOf d r ∧ e = .returned (.tuple #[v, .bool r.isSome]) ∧ OwnS Kbyte 5 w' w.heap.size (fun j => w.heap.size ≤ j) v (r.getD []) ∧ Below w.heap.size w w' := by
  have hn := right_len hd
  have hn0 := hn.1
  have hn1 := hn.2.1
  have hn0x : (0 : Int) < d.next.length := by omega
  have hn0n : 0 < d.next.length := by omega
  have hcl : d.cls.length ≤ 256 := by rw [← right_parts hd]; exact parts_le _
  have hnr := fun W' (hW' : Below w.heap.size w W') => c_near0 A1 A2 A3 k1 k2 k3 d F W' (S_below s2 hW') (S_below s3 hW') hd
  have HD := Lib.hid hd
  clear hn hd
  go_enter Tryz.func31, Tryz.ntmps31
  go_upto_region 1 with (fail)
  refine wp_name fun W0 hW0 => ?_
  have q0 : W0.heap[w.heap.size]? = some (.cells #[.slice A1 d.cls.length k1, .slice A2 d.next.length k2, .slice A3 d.marks.length k3] 42 (0, 0)) := by rw [← hW0]; exact World.alloc_heap_new w _
  have hE0 : Ext w W0 := by rw [← hW0]; exact (Ext.refl _).alloc _
  have hz0 : w.heap.size < W0.heap.size := by rw [← hW0]; simp
  clear hW0
  obtain ⟨b0, b1, b2⟩ := cells3 q0
  go_wp2_with (go_at_call 58; refine (hnr W0 hE0.below).mono ?_; rintro e w1 ⟨g, far, rfl, hDi, hO, hB1⟩)
  have hq1 := (hB1.block _ hz0).trans q0
  obtain ⟨z0, z1, z2⟩ := cells3 hq1
  have hBw := hE0.below.trans (hB1.mono hE0.size)
  have hfl := hDi.fr.len
  have hr0 := hDi.fr.rng 0 (by omega)
  obtain ⟨z3, _, hg1, _, hg2, _⟩ := hO.at1 (Rp.ints_at far (i := 0) (by omega))
  have HDI := Lib.hid hDi
  have HO := Lib.hid hO
  have HQ1 := Lib.hid hq1
  have HFL := Lib.hid hfl
  clear hDi hO hq1 q0 hnr b0 b1 b2 hfl
  have hx0 : ∃ x, far.getD 0 0 = x := ⟨_, rfl⟩
  obtain ⟨x0, hx0⟩ := hx0
  rw [hx0] at z3 hr0
  have HX0 := Lib.hid hx0
  clear hx0
  obtain ⟨SS, hSS⟩ : ∃ S : World → Prop, S = fun w' => Below w1.heap.size w1 w' := ⟨_, rfl⟩
  have hSi : ∀ W', SS W' → Below w1.heap.size w1 W' := fun W' h => by rw [hSS] at h; exact h
  have hS : SS w1.drew := by rw [hSS]; exact (Below.refl _ _).drew
  clear hSS
  refine wp_region_noPanic (wp_region_T SS [2, 4] (by kernel_rfl) ?_)
  refine wpAnyT_takeY (i := 0) (v := ?v0_18) rfl (by kernel_rfl) (by kernel_rfl) (by kernel_rfl) (fun _ _ _ h => h) (by rfl) ?hy0_18 ?r0_18
  case hy0_18 => (intro w; go_simp; try (with_reducible rfl))
  case r0_18 =>
  try simp only [Act.put, List.setIfInBounds_toArray, List.set_cons_zero, List.set_cons_succ]
  refine wpAnyT_takeY (i := 1) (v := ?v1_19) rfl (by kernel_rfl) (by kernel_rfl) (by kernel_rfl) (fun _ _ _ h => h) (by rfl) ?hy1_19 ?r1_19
  case hy1_19 => (intro w; go_simp; try (with_reducible rfl))
  case r1_19 =>
  try simp only [Act.put, List.setIfInBounds_toArray, List.set_cons_zero, List.set_cons_succ]
  refine wpAnyT_takeY (i := 3) (v := ?v3_20) rfl (by kernel_rfl) (by kernel_rfl) (by kernel_rfl) (fun _ _ _ h => h) (by rfl) ?hy3_20 ?r3_20
  case hy3_20 => (intro w; go_simp; try (with_reducible rfl))
  case r3_20 =>
  try simp only [Act.put, List.setIfInBounds_toArray, List.set_cons_zero, List.set_cons_succ]
  refine wpAnyT_take (i := 2) (v := ?v2_21) rfl rfl (by kernel_rfl) (by kernel_rfl) (by kernel_rfl) (fun _ _ _ h => h) (by rfl) hS ?hy2_21 ?r2_21
  case hy2_21 => (intro w hSw; have e0 := bcellS (hSi _ hSw) z0; have e1 := bcellS (hSi _ hSw) z1; have e2 := bcellS (hSi _ hSw) z2; have e3 := bcellS (hSi _ hSw) z3; (try dsimp only at hSw); go_simp; try (with_reducible rfl))
  case r2_21 =>
  try simp only [Act.put, List.setIfInBounds_toArray, List.set_cons_zero, List.set_cons_succ]
  refine wpAnyT_take (i := 4) (v := ?v4_22) rfl rfl (by kernel_rfl) (by kernel_rfl) (by kernel_rfl) (fun _ _ _ h => h) (by rfl) hS ?hy4_22 ?r4_22
  case hy4_22 => (intro w hSw; have e0 := bcellS (hSi _ hSw) z0; have e1 := bcellS (hSi _ hSw) z1; have e2 := bcellS (hSi _ hSw) z2; have e3 := bcellS (hSi _ hSw) z3; (try dsimp only at hSw); go_simp; try (with_reducible rfl))
  case r4_22 =>
  try simp only [Act.put, List.setIfInBounds_toArray, List.set_cons_zero, List.set_cons_succ]
  refine wpAnyT_takeY (i := 5) (v := ?v5_23) rfl (by kernel_rfl) (by kernel_rfl) (by kernel_rfl) (fun _ _ _ h => h) (by rfl) ?hy5_23 ?r5_23
  case hy5_23 => (intro w; go_simp; try (with_reducible rfl))
  case r5_23 =>
  try simp only [Act.put, List.setIfInBounds_toArray, List.set_cons_zero, List.set_cons_succ]
  refine wpAnyT_takeY (i := 6) (v := ?v6_24) rfl (by kernel_rfl) (by kernel_rfl) (by kernel_rfl) (fun _ _ _ h => h) (by rfl) ?hy6_24 ?r6_24
  case hy6_24 => (intro w; go_simp; try (with_reducible rfl))
  case r6_24 =>
  try simp only [Act.put, List.setIfInBounds_toArray, List.set_cons_zero, List.set_cons_succ]
  refine wpAnyT_done (by kernel_rfl) ?_ _
  refine NoPanic.normal ?_
  by_cases hx : x0 = d.next.length
  · have hx' : ((x0 : Int) == d.next.length) = true := by simp; omega
    have HX := Lib.hid hx
    clear hx hS hSi
    go_wp2
    refine bodyPost_ret (v := .tuple #[.slice none 0 0, .bool false]) (by simp [results, Tryz.results31, go_sem]) rfl ⟨none, .slice none 0 0, first_none HD.out HDI.out (by rw [HX0.out, HX.out]), rfl, OwnS.nil _ _ _ _ _, hBw.drew⟩
  · have hx' : ((x0 : Int) == d.next.length) = false := by rw [beq_eq_false_iff_ne]; omega
    have hxl : x0 < d.next.length := by omega
    have hfs := first_some HD.out HDI.out (by rw [HX0.out]; exact hxl)
    rw [HX0.out] at hfs
    have HFS := Lib.hid hfs
    clear hx hfs hS hSi
    go_wp2
    rename ((x0 : Int) == d.next.length) = false => hxx
    clear hxx hx'
    obtain ⟨Wb, hWb⟩ : ∃ W : World, W = w1 := ⟨_, rfl⟩
    go_loopg [5, 6] (x0 + 1) (fun gk v5 v6 wr => ∃ (s : Nat) (out : List UInt8), v6 = .int .i64 (s : Int) ∧ s < d.next.length ∧ grd d far x0 0 = out ++ grd d far (far.getD s 0) s ∧ gk = far.getD s 0 + 1 ∧ out.length + far.getD s 0 = x0 ∧ OwnS Kbyte 5 wr w1.heap.size (fun j => w1.heap.size ≤ j) v5 out ∧ Below w1.heap.size w1 wr)
    case atStart => exact ⟨0, [], rfl, by omega, by rw [HX0.out]; rfl, by rw [HX0.out], by rw [HX0.out]; simp, OwnS.nil _ _ _ _ _, (Below.refl _ _).drew⟩
    case round =>
      obtain ⟨s, out, rfl, hs, hg, hgk, hol, hOut, hB⟩ := hrel
      have HG := Lib.hid hg
      have HGK := Lib.hid hgk
      have HOL := Lib.hid hol
      have hs0 : (0 : Int) ≤ s := by omega
      have hs1 : (s : Int) < d.next.length := by omega
      have hOf := HO.out.below hB
      have hq2 := (hB.block _ (by have := hB1.size; omega)).trans HQ1.out
      obtain ⟨z3, _, hg1, _, hg2, _⟩ := hOf.at1 (Rp.ints_at far (i := s) (by rw [HFL.out]; exact hs))
      obtain ⟨A5, k5, rfl, _, _, _⟩ := hOut.reads
      have hrs := HDI.out.fr.rng s hs
      have HOF := Lib.hid hOf
      have HOUT := Lib.hid hOut
      have HQ2 := Lib.hid hq2
      have HB := Lib.hid hB
      clear hg hgk hol hOf hOut hq2
      obtain ⟨x, hx⟩ : ∃ x, far.getD s 0 = x := ⟨_, rfl⟩
      rw [hx] at z3 hrs
      have HX := Lib.hid hx
      clear hx
      by_cases h0 : x = 0
      · subst h0
        go_wp2
        go_ret2
        have hg := HG.out
        rw [HX.out, show grd d far 0 s = [] from rfl, List.append_nil] at hg
        exact ⟨some (grd d far x0 0), _, HFS.out, rfl, by rw [Option.getD_some, hg]; exact (HOUT.out.lower hBw.size).mono fun j hj => Nat.le_trans hBw.size hj, hBw.trans (HB.out.mono hBw.size)⟩
      · obtain ⟨r, rfl⟩ : ∃ r, x = r + 1 := ⟨x - 1, by omega⟩
        have hrl : r + 1 < d.next.length := by have := HOL.out; rw [HX.out] at this; omega
        have hol : out.length ≤ 4000 := by have := HOL.out; omega
        have HL := Lib.hid (leastC_spec HD.out HDI.out hs HX.out hrl)
        clear h0
        obtain ⟨gk0, rfl⟩ : ∃ x : Nat, x = gk := ⟨_, rfl⟩
        obtain ⟨wo, rfl⟩ : ∃ wo : World, wo = wr := ⟨_, rfl⟩
        go_wp2
        go_loopg [5, 6, 7, 8] 257 (fun gk v5 v6 v7 v8 wr => v5 = .slice A5 out.length k5 ∧ v6 = .int .i64 (s : Int) ∧ ∃ (c : Nat), v7 = .int .i64 (c : Int) ∧ c ≤ leastC d far s ∧ gk + c = 257 ∧ Below wo.heap.size wo wr)
        case atStart => exact ⟨rfl, rfl, 0, rfl, by omega, by omega, Below.refl _ _⟩
        case round =>
          obtain ⟨rfl, rfl, c, rfl, hc, hgk, hB⟩ := hrel
          have HG2 := Lib.hid hgk
          have hc0 : (0 : Int) ≤ c := by omega
          have hcl := HL.out.1
          have hc2 : (c : Int) < 256 := by omega
          have hc3 : c < 256 := by omega
          have hBx := hBw.trans (HB.out.trans (hB.mono HB.out.size) |>.mono hBw.size)
          obtain ⟨z0, z1, z2⟩ := cells3 ((hB.block _ (by have := HB.out.size; have := hB1.size; omega)).trans HQ2.out)
          have hk := clsOf_range HD.out hc3
          obtain ⟨hrl2, hra⟩ := nxK_at HD.out hs hk
          have hyl := nxK_lt HD.out hs hk
          obtain ⟨b5, o5, B5, d5, e5, _, _, z4, _, _, t5⟩ := S_slice (S_below s2 hBx) hs
          obtain rfl : A2 = some ⟨b5, o5, none⟩ := e5
          obtain ⟨b7, o7, e7, -, -, z5, -⟩ := S_int t5 (i := clsOf d.cls c) (by omega)
          subst e7
          rw [List.getElem?_eq_getElem (by omega)] at hra
          rw [Option.some.inj hra] at z5
          rw [hrl2] at z4
          have hcf := fun W' (hW' : Below w.heap.size w W') => c_refClass A1 (some ⟨b5, o5, none⟩) A3 d.cls.length d.next.length d.marks.length k1 k2 k3 d.cls c _ W' (S_below s1 hW') rfl hc3 hk (by omega)
          have hOf2 := HOF.out.below hB
          obtain ⟨z6, _, _, _, _, _⟩ := hOf2.at1 (Rp.ints_at far (i := nxK d s (clsOf d.cls c)) (by rw [HFL.out]; exact hyl))
          obtain ⟨z7, _, _, _, _, _⟩ := hOf2.at1 (Rp.ints_at far (i := s) (by rw [HFL.out]; exact hs))
          have hmt : far.getD (nxK d s (clsOf d.cls c)) 0 = r ↔ c = leastC d far s := by
            constructor
            · intro e
              apply Classical.byContradiction
              intro hne
              exact HL.out.2.2 c (by omega) e
            · intro e
              have := HL.out.2.1
              rw [← e] at this; exact this
          have hdl : dlt d s c = nxK d s (clsOf d.cls c) := rfl
          have hrf := HDI.out.fr.rng _ hyl
          rw [HX.out] at z7
          have HMT := Lib.hid hmt
          have HDL := Lib.hid hdl
          have HBx := Lib.hid hBx
          have hw8 : IntKind.u8.wrap (c : Int) = c := by rw [IntKind.wrap_u8]; omega
          clear hmt hdl hrl2 hra t5 hgk
          generalize nxK d s (clsOf d.cls c) = y at *
          generalize clsOf d.cls c = kk at *
          generalize hxy : far.getD y 0 = xy at *
          have HXY := Lib.hid hxy
          clear hxy
          have hy0 : (0 : Int) ≤ y := by omega
          have hy1 : (y : Int) < d.next.length := by omega
          have hkk0 : (0 : Int) ≤ kk := by omega
          have hkk1 : (kk : Int) < d.cls.length := by omega
          obtain ⟨SS, hSS⟩ : ∃ S : World → Prop, S = fun w' => Below wr.heap.size wr w' := ⟨_, rfl⟩
          have hSi : ∀ W', SS W' → Below wr.heap.size wr W' := fun W' h => by rw [hSS] at h; exact h
          have hSo : ∀ W', Below wr.heap.size wr W' → SS W' := fun W' h => by rw [hSS]; exact h
          have hS : SS wr.drew := hSo _ (Below.refl _ _).drew
          clear hSS
          go_wp2
          refine wp_region_noPanic (wp_region_T SS [1, 4, 5, 10] (by kernel_rfl) ?_)
          refine wpAnyT_takeY (i := 0) (v := ?v0_25) rfl (by kernel_rfl) (by kernel_rfl) (by kernel_rfl) (fun _ _ _ h => h) (by rfl) ?hy0_25 ?r0_25
          case hy0_25 => (intro w; go_simp; try (with_reducible rfl))
          case r0_25 =>
          try simp only [Act.put, List.setIfInBounds_toArray, List.set_cons_zero, List.set_cons_succ]
          refine wpAnyT_takeY (i := 2) (v := ?v2_26) rfl (by kernel_rfl) (by kernel_rfl) (by kernel_rfl) (fun _ _ _ h => h) (by rfl) ?hy2_26 ?r2_26
          case hy2_26 => (intro w; go_simp; try (with_reducible rfl))
          case r2_26 =>
          try simp only [Act.put, List.setIfInBounds_toArray, List.set_cons_zero, List.set_cons_succ]
          refine wpAnyT_takeY (i := 6) (v := ?v6_27) rfl (by kernel_rfl) (by kernel_rfl) (by kernel_rfl) (fun _ _ _ h => h) (by rfl) ?hy6_27 ?r6_27
          case hy6_27 => (intro w; go_simp; try (with_reducible rfl))
          case r6_27 =>
          try simp only [Act.put, List.setIfInBounds_toArray, List.set_cons_zero, List.set_cons_succ]
          refine wpAnyT_takeY (i := 7) (v := ?v7_28) rfl (by kernel_rfl) (by kernel_rfl) (by kernel_rfl) (fun _ _ _ h => h) (by rfl) ?hy7_28 ?r7_28
          case hy7_28 => (intro w; go_simp; try (with_reducible rfl))
          case r7_28 =>
          try simp only [Act.put, List.setIfInBounds_toArray, List.set_cons_zero, List.set_cons_succ]
          refine wpAnyT_take (i := 1) (v := ?v1_29) rfl rfl (by kernel_rfl) (by kernel_rfl) (by kernel_rfl) (fun _ _ _ h => h) (by rfl) hS ?hy1_29 ?r1_29
          case hy1_29 => (intro w hSw; have e0 := bcellS (hSi _ hSw) z0; have e1 := bcellS (hSi _ hSw) z1; have e2 := bcellS (hSi _ hSw) z2; have e4 := bcellS (hSi _ hSw) z4; have e5 := bcellS (hSi _ hSw) z5; (try dsimp only at hSw); go_simp; try (with_reducible rfl))
          case r1_29 =>
          try simp only [Act.put, List.setIfInBounds_toArray, List.set_cons_zero, List.set_cons_succ]
          refine wpAnyT_takeY (i := 3) (v := ?v3_30) rfl (by kernel_rfl) (by kernel_rfl) (by kernel_rfl) (fun _ _ _ h => h) (by rfl) ?hy3_30 ?r3_30
          case hy3_30 => (intro w; go_simp; try (with_reducible rfl))
          case r3_30 =>
          try simp only [Act.put, List.setIfInBounds_toArray, List.set_cons_zero, List.set_cons_succ]
          refine wpAnyT_take (i := 4) (v := ?v4_31) rfl rfl (by kernel_rfl) (by kernel_rfl) (by kernel_rfl) (fun _ _ _ h => h) (by rfl) hS ?hy4_31 ?r4_31
          case hy4_31 => (intro w hSw; have e0 := bcellS (hSi _ hSw) z0; have e1 := bcellS (hSi _ hSw) z1; have e2 := bcellS (hSi _ hSw) z2; have e4 := bcellS (hSi _ hSw) z4; have e5 := bcellS (hSi _ hSw) z5; (try dsimp only at hSw); go_simp; try (with_reducible rfl))
          case r4_31 =>
          try simp only [Act.put, List.setIfInBounds_toArray, List.set_cons_zero, List.set_cons_succ]
          refine wpAnyT_take (i := 5) (v := ?v5_32) rfl rfl (by kernel_rfl) (by kernel_rfl) (by kernel_rfl) (fun _ _ _ h => h) (by rfl) hS ?hy5_32 ?r5_32
          case hy5_32 => (intro w hSw; have e0 := bcellS (hSi _ hSw) z0; have e1 := bcellS (hSi _ hSw) z1; have e2 := bcellS (hSi _ hSw) z2; have e4 := bcellS (hSi _ hSw) z4; have e5 := bcellS (hSi _ hSw) z5; (try dsimp only at hSw); go_simp; try (with_reducible rfl))
          case r5_32 =>
          try simp only [Act.put, List.setIfInBounds_toArray, List.set_cons_zero, List.set_cons_succ]
          refine wpAnyT_one (i := 8) rfl (by kernel_rfl) (by rfl) (fun K hK => ?_)
          go_simp
          refine (hcf wr.drew (HBx.out.trans ((Below.refl _ _).drew.mono HBx.out.size))).mono ?_
          rintro e w9 ⟨rfl, hB9⟩
          try dsimp only
          have hB9' : Below wr.heap.size wr w9 := (Below.refl _ wr).drew.trans hB9
          refine hK _ _ (fun _ _ => hSo _ hB9') ?_
          replace hS := hSo _ hB9'
          clear hK K
          try simp only [Act.put, List.setIfInBounds_toArray, List.set_cons_zero, List.set_cons_succ]
          refine wpAnyT_takeY (i := 9) (v := ?v9_33) rfl (by kernel_rfl) (by kernel_rfl) (by kernel_rfl) (fun _ _ _ h => h) (by rfl) ?hy9_33 ?r9_33
          case hy9_33 => (intro w; go_simp; try (with_reducible rfl))
          case r9_33 =>
          try simp only [Act.put, List.setIfInBounds_toArray, List.set_cons_zero, List.set_cons_succ]
          refine wpAnyT_take (i := 10) (v := ?v10_34) rfl rfl (by kernel_rfl) (by kernel_rfl) (by kernel_rfl) (fun _ _ _ h => h) (by rfl) hS ?hy10_34 ?r10_34
          case hy10_34 => (intro w hSw; have e0 := bcellS (hSi _ hSw) z0; have e1 := bcellS (hSi _ hSw) z1; have e2 := bcellS (hSi _ hSw) z2; have e4 := bcellS (hSi _ hSw) z4; have e5 := bcellS (hSi _ hSw) z5; (try dsimp only at hSw); go_simp; try (with_reducible rfl))
          case r10_34 =>
          try simp only [Act.put, List.setIfInBounds_toArray, List.set_cons_zero, List.set_cons_succ]
          refine wpAnyT_takeY (i := 11) (v := ?v11_35) rfl (by kernel_rfl) (by kernel_rfl) (by kernel_rfl) (fun _ _ _ h => h) (by rfl) ?hy11_35 ?r11_35
          case hy11_35 => (intro w; go_simp; try (with_reducible rfl))
          case r11_35 =>
          try simp only [Act.put, List.setIfInBounds_toArray, List.set_cons_zero, List.set_cons_succ]
          refine wpAnyT_done (by kernel_rfl) ?_ _
          refine NoPanic.normal ?_
          try dsimp only
          have z0 := bcellS hB9' z0
          have z6 := bcellS hB9' z6
          have z7 := bcellS hB9' z7
          have HB9 := Lib.hid (hB.trans (hB9'.mono hB.size))
          have HB9' := Lib.hid hB9'
          clear hS hSi hSo hB9' hB9 hcf z1 z2 z4 z5
          obtain ⟨SS, hSS⟩ : ∃ S : World → Prop, S = fun w' => Below w9.heap.size w9 w' := ⟨_, rfl⟩
          have hSi : ∀ W', SS W' → Below w9.heap.size w9 W' := fun W' h => by rw [hSS] at h; exact h
          have hS : SS w9.drew := by rw [hSS]; exact (Below.refl _ _).drew
          clear hSS
          have hwr : IntKind.i64.wrap (r : Int) = r := by rw [IntKind.wrap_i64]; omega
          go_wp2
          refine wp_region_noPanic (wp_region_T SS [3, 7] (by kernel_rfl) ?_)
          refine wpAnyT_takeY (i := 0) (v := ?v0_36) rfl (by kernel_rfl) (by kernel_rfl) (by kernel_rfl) (fun _ _ _ h => h) (by rfl) ?hy0_36 ?r0_36
          case hy0_36 => (intro w; go_simp; try (with_reducible rfl))
          case r0_36 =>
          try simp only [Act.put, List.setIfInBounds_toArray, List.set_cons_zero, List.set_cons_succ]
          refine wpAnyT_takeY (i := 1) (v := ?v1_37) rfl (by kernel_rfl) (by kernel_rfl) (by kernel_rfl) (fun _ _ _ h => h) (by rfl) ?hy1_37 ?r1_37
          case hy1_37 => (intro w; go_simp; try (with_reducible rfl))
          case r1_37 =>
          try simp only [Act.put, List.setIfInBounds_toArray, List.set_cons_zero, List.set_cons_succ]
          refine wpAnyT_takeY (i := 2) (v := ?v2_38) rfl (by kernel_rfl) (by kernel_rfl) (by kernel_rfl) (fun _ _ _ h => h) (by rfl) ?hy2_38 ?r2_38
          case hy2_38 => (intro w; go_simp; try (with_reducible rfl))
          case r2_38 =>
          try simp only [Act.put, List.setIfInBounds_toArray, List.set_cons_zero, List.set_cons_succ]
          refine wpAnyT_takeY (i := 4) (v := ?v4_39) rfl (by kernel_rfl) (by kernel_rfl) (by kernel_rfl) (fun _ _ _ h => h) (by rfl) ?hy4_39 ?r4_39
          case hy4_39 => (intro w; go_simp; try (with_reducible rfl))
          case r4_39 =>
          try simp only [Act.put, List.setIfInBounds_toArray, List.set_cons_zero, List.set_cons_succ]
          refine wpAnyT_takeY (i := 5) (v := ?v5_40) rfl (by kernel_rfl) (by kernel_rfl) (by kernel_rfl) (fun _ _ _ h => h) (by rfl) ?hy5_40 ?r5_40
          case hy5_40 => (intro w; go_simp; try (with_reducible rfl))
          case r5_40 =>
          try simp only [Act.put, List.setIfInBounds_toArray, List.set_cons_zero, List.set_cons_succ]
          refine wpAnyT_takeY (i := 6) (v := ?v6_41) rfl (by kernel_rfl) (by kernel_rfl) (by kernel_rfl) (fun _ _ _ h => h) (by rfl) ?hy6_41 ?r6_41
          case hy6_41 => (intro w; go_simp; try (with_reducible rfl))
          case r6_41 =>
          try simp only [Act.put, List.setIfInBounds_toArray, List.set_cons_zero, List.set_cons_succ]
          refine wpAnyT_take (i := 3) (v := ?v3_42) rfl rfl (by kernel_rfl) (by kernel_rfl) (by kernel_rfl) (fun _ _ _ h => h) (by rfl) hS ?hy3_42 ?r3_42
          case hy3_42 => (intro w hSw; have e6 := bcellS (hSi _ hSw) z6; have e7 := bcellS (hSi _ hSw) z7; (try dsimp only at hSw); go_simp; try (with_reducible rfl))
          case r3_42 =>
          try simp only [Act.put, List.setIfInBounds_toArray, List.set_cons_zero, List.set_cons_succ]
          refine wpAnyT_take (i := 7) (v := ?v7_43) rfl rfl (by kernel_rfl) (by kernel_rfl) (by kernel_rfl) (fun _ _ _ h => h) (by rfl) hS ?hy7_43 ?r7_43
          case hy7_43 => (intro w hSw; have e6 := bcellS (hSi _ hSw) z6; have e7 := bcellS (hSi _ hSw) z7; (try dsimp only at hSw); go_simp; try (with_reducible rfl))
          case r7_43 =>
          try simp only [Act.put, List.setIfInBounds_toArray, List.set_cons_zero, List.set_cons_succ]
          refine wpAnyT_takeY (i := 8) (v := ?v8_44) rfl (by kernel_rfl) (by kernel_rfl) (by kernel_rfl) (fun _ _ _ h => h) (by rfl) ?hy8_44 ?r8_44
          case hy8_44 => (intro w; go_simp; try (with_reducible rfl))
          case r8_44 =>
          try simp only [Act.put, List.setIfInBounds_toArray, List.set_cons_zero, List.set_cons_succ]
          refine wpAnyT_takeY (i := 9) (v := ?v9_45) rfl (by kernel_rfl) (by kernel_rfl) (by kernel_rfl) (fun _ _ _ h => h) (by rfl) ?hy9_45 ?r9_45
          case hy9_45 => (intro w; go_simp; try (with_reducible rfl))
          case r9_45 =>
          try simp only [Act.put, List.setIfInBounds_toArray, List.set_cons_zero, List.set_cons_succ]
          refine wpAnyT_done (by kernel_rfl) ?_ _
          refine NoPanic.normal ?_
          try dsimp only
          clear hS hSi
          obtain ⟨W10, hW10⟩ : ∃ y, y = w9.drew := ⟨_, rfl⟩
          have HB10 := Lib.hid (show Below wo.heap.size wo W10 by rw [hW10]; exact HB9.out.drew)
          have HO10 := Lib.hid (HOUT.out.below HB10.out)
          rw [← hW10]
          clear hW10 z0 z6 z7 z3
          by_cases he : xy = r
          · have hex : ((xy : Int) == r) = true := by rw [he]; simp
            have hcx := HMT.out.1 he
            obtain ⟨bu, rfl⟩ : ∃ b : UInt8, b.toNat = c := ⟨UInt8.ofNat c, UInt8.toNat_ofNat_of_lt' (by simpa using hc3)⟩
            have HCX := Lib.hid hcx
            have HE := Lib.hid he
            clear he hcx
            go_wp2_with (at_builtin; refine own_append Kbyte W10 w1.heap.size W10.heap.size rfl _ _ 47 5 (.int .u8 0) 1 rfl Tryz.underlying47 info_u8 rfl (by decide) (by decide) (.slice A5 out.length k5) out bu [byteV bu] (fun b => w1.heap.size ≤ b) rfl rfl rfl ⟨rfl, trivial⟩ HO10.out (fun k hk => Nat.le_trans (HB.out.trans (HB10.out.mono HB.out.size)).size hk) (HB.out.trans (HB10.out.mono HB.out.size)).size (by omega) ?_; intro v11 w11 hO11 hM11 hv11)
            go_roundg (gk0 - 1)
            case measure => have := HGK.out; rw [HX.out] at this; omega
            case rel =>
              refine ⟨y, out ++ [bu], by go_num, hyl, ?_, ?_, ?_, hO11, Mov.below (HB.out.trans (HB10.out.mono HB.out.size)) hM11 (HB.out.trans (HB10.out.mono HB.out.size)).size (fun k hk => HO10.out.1 k hk)⟩
              · rw [HG.out, HX.out, HXY.out, HE.out, List.append_assoc]
                rw [show grd d far (r + 1) s = UInt8.ofNat (leastC d far s) :: grd d far r (dlt d s (leastC d far s)) from rfl, ← HCX.out, HDL.out]; simp
              · have := HGK.out; rw [HX.out] at this; rw [HXY.out, HE.out]; omega
              · have := HOL.out; rw [HX.out] at this; rw [HXY.out, HE.out]; simp; omega
          · have hex : ((xy : Int) == r) = false := by rw [beq_eq_false_iff_ne]; omega
            have hcx : c ≠ leastC d far s := fun e => he (HMT.out.2 e)
            have HCX := Lib.hid hcx
            clear he hcx
            go_wp2
            go_roundg (gk - 1)
            case measure => have := HG2.out; omega
            case rel => exact ⟨rfl, rfl, c + 1, by go_num, by have := HCX.out; omega, by have := HG2.out; omega, HB10.out⟩
end Go.Proofs
end

section
set_option linter.unusedVariables false
set_option linter.unusedSimpArgs false
namespace Go.Proofs
open Go.RowKit Go.Shelf Rp Go.Maps
attribute [local go_sem] Oper.semAt_some
theorem DfaW.reads {w : World} {base : Nat} {h : DA} {d : Dfa} (o : DfaW w base h d) : DfaT w (fun b => base ≤ b) h d := by
  obtain ⟨A1, c1, e1, l1, m1, s1⟩ := o.o1.reads
  obtain ⟨A2, c2, e2, l2, m2, s2⟩ := o.o2.reads
  obtain ⟨A3, c3, e3, l3, m3, s3⟩ := o.o3.reads
  obtain ⟨a1, _, _⟩ := slice_inj e1
  obtain ⟨a2, _, _⟩ := slice_inj e2
  obtain ⟨a3, _, _⟩ := slice_inj e3
  exact ⟨by rw [a1]; exact s1, by rw [a2]; exact S_forget s2, by rw [a3]; exact S_forget s3⟩
theorem c_refFirst (h : DA) (d : Dfa) (F : Nat → Prop) (w : World) (hT : DfaT w F h d) (hd : rightB d = true) :
    Calls Tryz.prog 31 #[dfaV h d] w
      fun e w' => ∃ r v, FirstOf d r ∧ e = .returned (.tuple #[v, .bool r.isSome]) ∧ OwnS Kbyte 5 w' w.heap.size (fun j => w.heap.size ≤ j) v (r.getD []) ∧ Below w.heap.size w w' :=
  c_refFirst0 h.A1 h.A2 h.A3 h.c1 h.c2 h.c3 d F w hT.t1 hT.t2 hT.t3 hd
set_option maxRecDepth 100000 in
set_option maxHeartbeats 1600000 in
theorem c_ref19Parts (ha hb : DA) (a b : Dfa) (op : Nat) (fuel : Int) (F G : Nat → Prop) (w : World) (hop : op < 256) (ra : DfaU w F ha a) (rb : DfaU w G hb b) :
    Calls Tryz.prog 18 #[dfaV ha a, dfaV hb b, .int .i64 (op : Int), .int .i64 fuel] w
      fun e w' => ∃ bs v ok err, PartsR a b op fuel (bs, ok, err) ∧ e = .returned (.tuple #[v, .bool ok, .int .i64 err]) ∧ OwnS Kbyte 5 w' w.heap.size (fun b => w.heap.size ≤ b) v bs ∧ Below w.heap.size w w' := by
  have hc := fun W' (hW' : Below w.heap.size w W') => c_refProd ha hb a b op fuel F G W' hop (ra.below hW') (rb.below hW')
  obtain ⟨A1, k1, A2, k2, A3, k3⟩ := ha
  obtain ⟨B1, m1, B2, m2, B3, m3⟩ := hb
  simp only [dfaV, dfaC] at hc ⊢
  go_enter Tryz.func18, Tryz.ntmps18
  go_wp2_with fail
  refine calls_name fun W0 hW0 => ?_
  have hE0 : Ext w W0 := by rw [← hW0]; exact ((Ext.refl _).alloc _).alloc _
  clear hW0
  refine (hc W0 hE0.below).mono ?_
  rintro e w1 ⟨h', rfl, hO, hB⟩
  clear hc
  have hB1 := hE0.below.trans (hB.mono hE0.size)
  have hof := Lib.hid (ofB_right (a := a) (b := b) (op := op) (fuel := fuel))
  have hP : ∀ x, PartsR a b op fuel x ↔ (if (ofB a b op fuel).2 = 0 then ∃ r, FirstOf (ofB a b op fuel).1 r ∧ x = (r.getD [], r.isNone, 0) else x = ([], false, (ofB a b op fuel).2)) := fun x => Iff.rfl
  generalize ofB a b op fuel = res at *
  obtain ⟨dd, err⟩ := res
  dsimp only at hof hP hO ⊢
  have HP := Lib.hid hP
  clear hP
  by_cases he : err = 0
  · subst he
    have hr := hof.out rfl
    have hread := hO.reads
    have hcf := fun W' (hW' : Below w1.heap.size w1 W') => c_refFirst h' dd _ W' (hread.below hW') hr
    obtain ⟨D1, l1, D2, l2, D3, l3⟩ := h'
    simp only [dfaV, dfaC] at hcf ⊢
    clear hread hO hof
    go_wp2_with (go_at_call 31; refine (hcf _ ((Below.refl _ w1).alloc (Nat.le_refl _) _)).mono ?_; rintro e w2 ⟨r, v, hF, rfl, hO2, hB2⟩)
    go_ret3
    simp only [World.size_alloc] at hO2 hB2
    refine ⟨_, v, r.isNone, 0, (HP.out _).2 (by rw [if_pos (by trivial)]; exact ⟨r, hF, rfl⟩), rfl, (hO2.lower (by have := hB1.size; omega)).mono fun c hc => by have := hB1.size; omega, ?_⟩
    exact (hB1.alloc hB1.size _).trans (hB2.mono (by have := hB1.size; omega))
  · have hne : (err != 0) = true := by simpa using he
    have HE := Lib.hid he
    obtain ⟨D1, l1, D2, l2, D3, l3⟩ := h'
    simp only [dfaV, dfaC]
    clear he hO hof
    go_wp2
    go_ret3
    exact ⟨[], _, false, err, (HP.out _).2 (by rw [if_neg HE.out]), rfl, OwnS.nil _ _ _ _ _, hB1.alloc hB1.size _⟩
end Go.Proofs
end
