/- The reference's Not. Distances to a state that accepts; the first string, letter by letter: plain words. -/
import Derived.Test.YtmfijgigfianeaaGreatGrOfU
import Derived.Test.YtmfijgigfianeaaGreatGrCount
import Derived.Test.YtmfijgigfianeaaGreatGrRev
section
set_option linter.unusedVariables false
set_option linter.unusedSimpArgs false
namespace Go.Proofs
open Go.RowKit Go.Shelf Rp Go.Maps
attribute [local go_sem] Oper.semAt_some
set_option maxRecDepth 100000 in
set_option maxHeartbeats 1600000 in
theorem c_refNot0 (A1 A2 A3 : Option Addr) (k1 k2 k3 : Nat) (d : Dfa) (F : Nat → Prop) (w : World) (s3 : Kints.S w F A3 d.marks) (hl : d.marks.length ≤ 1000000) :
    Calls Tryz.prog 33 #[.agg #[.slice A1 d.cls.length k1, .slice A2 d.next.length k2, .slice A3 d.marks.length k3]] w
      fun e w' => ∃ A3' c3, e = .returned (.agg #[.slice A1 d.cls.length k1, .slice A2 d.next.length k2, .slice A3' d.marks.length c3]) ∧ OwnS KintF 36 w' w.heap.size (fun j => w.heap.size ≤ j) (.slice A3' d.marks.length c3) (d.marks.map notM) ∧ Below w.heap.size w w' := by
  go_enter Tryz.func33, Tryz.ntmps33
  go_wp2_with fail
  refine wp_name fun W1 hW1 => ?_
  have q0 : W1.heap[w.heap.size]? = some (.cells #[.slice A1 d.cls.length k1, .slice A2 d.next.length k2, .slice A3 d.marks.length k3] 42 (0, 0)) := by
    rw [← hW1]; exact (Below.heap_alloc _ _ _ (by simp <;> omega)).trans ((Below.heap_alloc _ _ _ (by simp)).trans (World.alloc_heap_new w _))
  have q1 : W1.heap[w.heap.size + 1]? = some (.cells #[.slice none 0 0, .slice none 0 0, .slice none 0 0] 42 (0, 0)) := by
    rw [← hW1]; refine (Below.heap_alloc _ _ _ (by simp)).trans ?_
    have := World.alloc_heap_new (w.alloc (.cells #[.slice A1 d.cls.length k1, .slice A2 d.next.length k2, .slice A3 d.marks.length k3] 42)) (.cells #[.slice none 0 0, .slice none 0 0, .slice none 0 0] 42)
    simpa using this
  have q2 : W1.heap[w.heap.size + 1 + 1]? = some (.cells #[.slice A1 d.cls.length k1, .slice A2 d.next.length k2, .slice none 0 0] 42 (0, 0)) := by
    rw [← hW1]
    have := World.alloc_heap_new ((w.alloc (.cells #[.slice A1 d.cls.length k1, .slice A2 d.next.length k2, .slice A3 d.marks.length k3] 42)).alloc (.cells #[.slice none 0 0, .slice none 0 0, .slice none 0 0] 42)) (.cells #[.slice A1 d.cls.length k1, .slice A2 d.next.length k2, .slice none 0 0] 42)
    simpa using this
  have hE1 : Ext w W1 := by rw [← hW1]; exact (((Ext.refl _).alloc _).alloc _).alloc _
  have hz1 : W1.heap.size = w.heap.size + 3 := by rw [← hW1]; simp
  clear hW1
  have HQ0 := Lib.hid q0
  have HQ1 := Lib.hid q1
  have hmm : (d.marks.map notM).length = d.marks.length := by simp
  have HMM := Lib.hid hmm
  clear q0 q1 hmm
  go_loopg [4] (d.marks.length + 1) (fun gk vk wr => ∃ (k : Nat) (vM : Value), vk = .int .i64 (k : Int) ∧ k ≤ d.marks.length ∧ gk + k = d.marks.length + 1 ∧ OwnS KintF 36 wr W1.heap.size (fun j => W1.heap.size ≤ j) vM ((d.marks.map notM).take k) ∧
    wr.heap[w.heap.size + 1 + 1]? = some (.cells #[.slice A1 d.cls.length k1, .slice A2 d.next.length k2, vM] 42 (0, 0)) ∧ Kp (fun j => j = w.heap.size + 1 + 1) W1 wr)
  case atStart => exact ⟨0, .slice none 0 0, rfl, by omega, by omega, OwnS.nil _ _ _ _ _, q2, Kp.refl _ _⟩
  case round =>
    obtain ⟨k, vM, rfl, hk, hgk, hO, hb, hK⟩ := hrel
    obtain ⟨AM, cM, rfl, _, _, _⟩ := hO.reads
    have HG := Lib.hid hgk
    have hk0 : (0 : Int) ≤ k := by omega
    have hq0 := hK.heap HQ0.out (by omega)
    obtain ⟨c0, c1, c2⟩ := cells3 hq0
    obtain ⟨m0, m1, m2⟩ := cells3 hb
    have m3 : ∀ j, wr.frozen? ⟨w.heap.size + 1 + 1, j, none⟩ = false := fun j => frozen_of_row wr _ j _ _ hb
    have hbz : w.heap.size + 1 + 1 < wr.heap.size := (Array.getElem?_eq_some_iff.1 hb).1
    have hneM : some (w.heap.size + 1 + 1) ≠ (Value.slice AM ((d.marks.map notM).take k).length cM).ownBlock := fun e => by have := (hO.lt _ e.symm).1; omega
    have hzr := hK.size
    have hBwr : Below w.heap.size w wr := hE1.below.trans (hK.below hE1.size (fun j hj e => by omega))
    have HO := Lib.hid hO
    have HB := Lib.hid hb
    have HK := Lib.hid hK
    have HBw := Lib.hid hBwr
    clear hgk hO hb hK hq0 q2
    by_cases hlt : k < d.marks.length
    · have hlt' : (k : Int) < d.marks.length := by omega
      obtain ⟨b3, o3, B3, d3, rfl, hF3, hb3, p3, _, _, _⟩ := S_slice (S_below s3 hBwr) hlt
      have htk : (d.marks.map notM).take (k + 1) = (d.marks.map notM).take k ++ [notM d.marks[k]] := by
        rw [List.take_succ_eq_append_getElem (by simpa using hlt)]; simp
      have htl : ((d.marks.map notM).take k).length ≤ 1000000 := by rw [List.length_take, List.length_map]; omega
      have hnm : notM d.marks[k] = if d.marks[k].length = 0 then [0] else [] := rfl
      have HTK := Lib.hid htk
      have HNM := Lib.hid hnm
      clear htk hnm hBwr
      generalize d.marks[k] = mk at *
      generalize (d.marks.map notM).take k = tk at *
      generalize hla : mk.length = la at *
      have hla' := hla
      clear hla
      by_cases hm : la = 0
      · have hm' : ((la : Int) == 0) = true := by simp; omega
        have hnm : notM mk = [0] := by rw [HNM.out]; simp [hm]
        have hbx : Below wr.heap.size wr ((wr.alloc (.cells #[.int .i64 0] 3)).alloc (.cells #[.slice (some ⟨wr.heap.size, 0, none⟩) 1 1] 36)) := ((Below.refl _ _).alloc (Nat.le_refl _) (.cells #[.int .i64 0] 3)).alloc (by simp) (.cells #[.slice (some ⟨wr.heap.size, 0, none⟩) 1 1] 36)
        have hO2 := HO.out.below hbx
        have hb2 := (hbx.block _ (Array.getElem?_eq_some_iff.1 HB.out).1).trans HB.out
        have hz2 := hbx.size
        have HNW := Lib.hid hnm
        have HKx := Lib.hid (HK.out.trans (.of_below hbx))
        clear hbx hnm
        go_wp2_with (at_builtin
                     refine own_appendS KintF ((wr.alloc (.cells #[.int .i64 0] 3)).alloc (.cells #[.slice (some ⟨wr.heap.size, 0, none⟩) 1 1] 36)) W1.heap.size rfl _ _ 23 36 (.slice none 0 0) 24 rfl Tryz.underlying23 info_ints rfl (by decide) (by decide) (.slice AM tk.length cM) tk [[0]] (some ⟨wr.heap.size + 1, 0, none⟩) 1 (fun j => W1.heap.size ≤ j) (fun j => wr.heap.size ≤ j) rfl rfl (by have := box_S KintF (wr.alloc (.cells #[.int .i64 0] 3)) 36 [.slice (some ⟨wr.heap.size, 0, none⟩) 1 1] [(0 : Int)] (fun j => wr.heap.size ≤ j) (KintF.mono (fun _ h => h) (KintF.step (OwnS.sliceF (OwnS.box Kint 3 wr [.int .i64 0] 0 wr.heap.size (fun j => wr.heap.size ≤ j) (Nat.le_refl _) (Nat.le_refl _) ⟨rfl, by unfold inI64; omega⟩)) fun b _ hl => Below.heap_alloc _ _ b hl)) (by simp); simpa using this) (fun q c h => KintF.mono (fun b hb => ⟨Nat.le_trans hzr hb, fun e => by have := (HO.out.lt _ e.symm).2; omega⟩) h) hO2 (fun j hj => by omega) (by omega) (by simp; omega) ?_
                     intro vM' w9 hO9 hM9 hv9
                     obtain ⟨gM, cM', rfl⟩ := hv9 (by simp)
                     have hb9 := hM9.heap hb2 hneM
                     have HB9 := Lib.hid hb9
                     have HO9 := Lib.hid hO9
                     have HK9 := Lib.hid (HKx.out.mov_after hM9 fun j hj => .inr (HO.out.1 j hj))
                     obtain ⟨n0, n1, n2⟩ := cells3 hb9
                     have n3 : ∀ j, w9.frozen? ⟨w.heap.size + 1 + 1, j, none⟩ = false := fun j => frozen_of_row w9 _ j _ _ hb9
                     clear hO9 hM9 hb9)
        clear n0 n1 n2 n3
        have e9 : (tk ++ [[0]]).length = tk.length + 1 := by simp
        have hO9 := HO9.out
        rw [e9] at hO9
        go_roundg (gk - 1)
        case measure => have := HG.out; omega
        case rel =>
          refine ⟨k + 1, _, by go_num, by omega, by have := HG.out; omega, ?_, by simpa using setCell_heap w9 (w.heap.size + 1 + 1) 2 _ _ _ (.slice (some ⟨gM, 0, none⟩) (tk.length + 1) cM') HB9.out, HK9.out.setCell ⟨w.heap.size + 1 + 1, 2, none⟩ rfl _⟩
          rw [HTK.out, HNW.out]
          exact hO9.step fun j hj _ => Below.heap_setCell _ _ _ j (by show j ≠ w.heap.size + 1 + 1; omega)
      · have hm' : ((la : Int) == 0) = false := by simp; omega
        have hnm : notM mk = [] := by rw [HNM.out]; simp [hm]
        have hbx : Below wr.heap.size wr (wr.alloc (.cells #[.slice none 0 0] 36)) := (Below.refl _ _).alloc (Nat.le_refl _) (.cells #[.slice none 0 0] 36)
        have hO2 := HO.out.below hbx
        have hb2 := (hbx.block _ (Array.getElem?_eq_some_iff.1 HB.out).1).trans HB.out
        have hz2 := hbx.size
        have HNW := Lib.hid hnm
        have HKx := Lib.hid (HK.out.trans (.of_below hbx))
        clear hbx hnm
        go_wp2_with (at_builtin
                     refine own_appendS KintF (wr.alloc (.cells #[.slice none 0 0] 36)) W1.heap.size rfl _ _ 23 36 (.slice none 0 0) 24 rfl Tryz.underlying23 info_ints rfl (by decide) (by decide) (.slice AM tk.length cM) tk [[]] (some ⟨wr.heap.size, 0, none⟩) 1 (fun j => W1.heap.size ≤ j) (fun j => wr.heap.size ≤ j) rfl rfl (box_S KintF wr 36 [.slice none 0 0] ([] : List Int) (fun j => wr.heap.size ≤ j) (KintF.mono (fun _ h => h) (OwnS.sliceF (OwnS.nil Kint 3 _ wr.heap.size (fun j => wr.heap.size ≤ j)))) (Nat.le_refl _)) (fun q c h => KintF.mono (fun b hb => ⟨Nat.le_trans hzr hb, fun e => by have := (HO.out.lt _ e.symm).2; omega⟩) h) hO2 (fun j hj => by omega) (by omega) (by simp; omega) ?_
                     intro vM' w9 hO9 hM9 hv9
                     obtain ⟨gM, cM', rfl⟩ := hv9 (by simp)
                     have hb9 := hM9.heap hb2 hneM
                     have HB9 := Lib.hid hb9
                     have HO9 := Lib.hid hO9
                     have HK9 := Lib.hid (HKx.out.mov_after hM9 fun j hj => .inr (HO.out.1 j hj))
                     obtain ⟨n0, n1, n2⟩ := cells3 hb9
                     have n3 : ∀ j, w9.frozen? ⟨w.heap.size + 1 + 1, j, none⟩ = false := fun j => frozen_of_row w9 _ j _ _ hb9
                     clear hO9 hM9 hb9)
        clear n0 n1 n2 n3
        have e9 : (tk ++ [[]]).length = tk.length + 1 := by simp
        have hO9 := HO9.out
        rw [e9] at hO9
        go_roundg (gk - 1)
        case measure => have := HG.out; omega
        case rel =>
          refine ⟨k + 1, _, by go_num, by omega, by have := HG.out; omega, ?_, by simpa using setCell_heap w9 (w.heap.size + 1 + 1) 2 _ _ _ (.slice (some ⟨gM, 0, none⟩) (tk.length + 1) cM') HB9.out, HK9.out.setCell ⟨w.heap.size + 1 + 1, 2, none⟩ rfl _⟩
          rw [HTK.out, HNW.out]
          exact hO9.step fun j hj _ => Below.heap_setCell _ _ _ j (by show j ≠ w.heap.size + 1 + 1; omega)
    · obtain rfl : k = d.marks.length := by omega
      have hge : ¬ ((d.marks.length : Int) < d.marks.length) := by omega
      have hfl : (d.marks.map notM).take d.marks.length = d.marks.map notM := List.take_of_length_le (by simp)
      have hq1 := HK.out.heap HQ1.out (by omega)
      obtain ⟨z0, z1, z2⟩ := cells3 hq1
      have z3 : ∀ j, wr.frozen? ⟨w.heap.size + 1, j, none⟩ = false := fun j => frozen_of_row wr _ j _ _ hq1
      have hz8 : w.heap.size + 1 < wr.heap.size := by omega
      have HFL := Lib.hid hfl
      have htl : ((d.marks.map notM).take d.marks.length).length = d.marks.length := by simp
      have HTL := Lib.hid htl
      clear hfl htl hq1 hBwr
      generalize (d.marks.map notM).take d.marks.length = tk at *
      go_wp2
      obtain ⟨u0, u1, u2, hBF, hoth⟩ := set3 wr (w.heap.size + 1) 42 _ _ _ (.slice A1 d.cls.length k1) (.slice A2 d.next.length k2) (.slice AM tk.length cM) z0 z1 z2
      refine bodyPost_ret (v := .agg #[.slice A1 d.cls.length k1, .slice A2 d.next.length k2, .slice AM tk.length cM]) (by simp [results, Tryz.results33, go_sem, u0, u1, u2]) rfl ⟨AM, cM, by rw [HTL.out], ?_, HBw.out.trans (hBF w.heap.size (by omega))⟩
      have ho := HO.out.step (w1 := (((wr.setCell ⟨w.heap.size + 1, 0, none⟩ (.slice A1 d.cls.length k1)).setCell ⟨w.heap.size + 1, 1, none⟩ (.slice A2 d.next.length k2)).setCell ⟨w.heap.size + 1, 2, none⟩ (.slice AM tk.length cM))) fun j hj _ => hoth j (by omega)
      rw [← HTL.out, ← HFL.out]
      exact (ho.lower hE1.size).mono fun j hj => Nat.le_trans hE1.size hj
theorem c_refNot (h : DA) (d : Dfa) (F : Nat → Prop) (w : World) (s3 : Kints.S w F h.A3 d.marks) (hl : d.marks.length ≤ 1000000) :
    Calls Tryz.prog 33 #[dfaV h d] w
      fun e w' => ∃ A3' c3, e = .returned (dfaV ⟨h.A1, h.c1, h.A2, h.c2, A3', c3⟩ ⟨d.cls, d.next, d.marks.map notM⟩) ∧ OwnS KintF 36 w' w.heap.size (fun j => w.heap.size ≤ j) (.slice A3' d.marks.length c3) (d.marks.map notM) ∧ Below w.heap.size w w' := by
  refine (c_refNot0 h.A1 h.A2 h.A3 h.c1 h.c2 h.c3 d F w s3 hl).mono ?_
  rintro e w' ⟨A3', c3, rfl, hO, hB⟩
  exact ⟨A3', c3, by simp [dfaV, dfaC], hO, hB⟩
end Go.Proofs
end

section
set_option linter.unusedVariables false
set_option linter.unusedSimpArgs false
namespace Rp
open Go.Proofs Go.Shelf
theorem nodup_le : ∀ (n : Nat) (l : List Nat), l.Nodup → (∀ x ∈ l, x < n) → l.length ≤ n
  | 0, l, _, h => by
    cases l with
    | nil => simp
    | cons a r => have := h a (by simp); omega
  | n + 1, l, hd, h => by
    by_cases hm : n ∈ l
    · have h1 := nodup_le n (l.erase n) (hd.erase n) fun x hx => by
        obtain ⟨h2, h3⟩ := (List.Nodup.mem_erase_iff hd).1 hx
        have := h x h3; omega
      rw [List.length_erase_of_mem hm] at h1; omega
    · have := nodup_le n l hd fun x hx => by
        have := h x hx
        have h2 : x ≠ n := fun e => hm (e ▸ hx)
        omega
      omega
/-- Where a class leads to. -/
def nxK (d : Dfa) (s k : Nat) : Nat := ((d.next.getD s []).getD k 0).toNat
theorem dlt_nxK (d : Dfa) (s c : Nat) : dlt d s c = nxK d s (clsOf d.cls c) := rfl
/-- far: numbers from 0 to n; what is below n is the length of a string that is accepted; an accepting state has 0. -/
structure Far (d : Dfa) (far : List Nat) : Prop where
  len : far.length = d.next.length
  rng : ∀ s, s < d.next.length → far.getD s 0 ≤ d.next.length
  sound : ∀ s, s < d.next.length → far.getD s 0 < d.next.length → ∃ b : List UInt8, b.length = far.getD s 0 ∧ accB d (runD d s b) = true
  zero : ∀ s, s < d.next.length → accB d s = true → far.getD s 0 = 0
/-- Strings up to length r are minded. -/
def UpTo (d : Dfa) (far : List Nat) (r : Nat) : Prop := ∀ s, s < d.next.length → ∀ b : List UInt8, accB d (runD d s b) = true → b.length ≤ r → far.getD s 0 ≤ b.length
/-- Round r: the states below s, and the classes below k of s. -/
structure Rnd (d : Dfa) (far : List Nat) (r s k : Nat) : Prop where
  fr : Far d far
  upto : UpTo d far r
  below : ∀ t, t < s → t < d.next.length → ∀ b : List UInt8, accB d (runD d t b) = true → b.length ≤ r + 1 → far.getD t 0 ≤ b.length
  here : ∀ c : UInt8, clsOf d.cls c.toNat < k → ∀ b : List UInt8, accB d (runD d (dlt d s c.toNat) b) = true → b.length ≤ r → far.getD s 0 ≤ b.length + 1
def relax (far : List Nat) (s t : Nat) : List Nat := if far.getD t 0 + 1 < far.getD s 0 then far.set s (far.getD t 0 + 1) else far
theorem relax_at (far : List Nat) (s t u : Nat) (hs : s < far.length) : (relax far s t).getD u 0 = if u = s then min (far.getD s 0) (far.getD t 0 + 1) else far.getD u 0 := by
  unfold relax
  by_cases h : far.getD t 0 + 1 < far.getD s 0
  · rw [if_pos h, getD_set]
    by_cases hu : u = s
    · subst hu
      rw [if_pos rfl, if_pos ⟨rfl, hs⟩]; omega
    · rw [if_neg hu, if_neg (fun e => hu e.1.symm)]
  · rw [if_neg h]
    by_cases hu : u = s
    · subst hu; rw [if_pos rfl]; omega
    · rw [if_neg hu]
theorem relax_le (far : List Nat) (s t u : Nat) (hs : s < far.length) : (relax far s t).getD u 0 ≤ far.getD u 0 := by
  rw [relax_at _ _ _ _ hs]
  split
  · rename_i h; subst h; omega
  · exact Nat.le_refl _
theorem relax_len (far : List Nat) (s t : Nat) : (relax far s t).length = far.length := by unfold relax; split <;> simp
theorem Far.relax {d : Dfa} (hd : rightB d = true) {far : List Nat} (h : Far d far) {s k : Nat} (hs : s < d.next.length) (hk : k < d.cls.length) : Far d (relax far s (nxK d s k)) := by
  have hsl : s < far.length := by rw [h.len]; exact hs
  obtain ⟨hc, _⟩ := first_of_cls hd hk
  have hlt := dlt_lt hd hs (first_lt d.cls[k])
  rw [dlt_nxK, hc] at hlt
  refine ⟨by rw [relax_len]; exact h.len, fun u hu => Nat.le_trans (relax_le _ _ _ _ hsl) (h.rng u hu), fun u hu => ?_, fun u hu ha => ?_⟩
  · rw [relax_at _ _ _ _ hsl]
    split
    · rename_i e; subst e
      intro hm
      by_cases hle : far.getD u 0 ≤ far.getD (nxK d u k) 0 + 1
      · rw [Nat.min_eq_left hle] at hm ⊢; exact h.sound u hu hm
      · rw [Nat.min_eq_right (by omega)] at hm ⊢
        obtain ⟨b, hb, hacc⟩ := h.sound _ hlt (by omega)
        refine ⟨(firstB d.cls[k]).1 :: b, by simp [hb], ?_⟩
        rw [runD_cons, dlt_nxK, hc]; exact hacc
    · exact h.sound u hu
  · have := relax_le far s (nxK d s k) u hsl
    have := h.zero u hu ha
    omega
theorem Rnd.step {d : Dfa} (hd : rightB d = true) {far : List Nat} {r s k : Nat} (h : Rnd d far r s k) (hs : s < d.next.length) (hk : k < d.cls.length) : Rnd d (relax far s (nxK d s k)) r s (k + 1) := by
  have hsl : s < far.length := by rw [h.fr.len]; exact hs
  refine ⟨h.fr.relax hd hs hk, fun u hu b hb hl => Nat.le_trans (relax_le _ _ _ _ hsl) (h.upto u hu b hb hl), fun u hus hu b hb hl => Nat.le_trans (relax_le _ _ _ _ hsl) (h.below u hus hu b hb hl), fun c hc b hb hl => ?_⟩
  rcases Nat.lt_or_eq_of_le (Nat.le_of_lt_succ hc) with hc | hc
  · exact Nat.le_trans (relax_le _ _ _ _ hsl) (h.here c hc b hb hl)
  · rw [relax_at _ _ _ _ hsl, if_pos rfl]
    have hlt := dlt_lt hd hs c.toNat_lt
    have := h.upto _ hlt b hb hl
    rw [dlt_nxK, hc] at this
    omega
theorem Rnd.next {d : Dfa} (hd : rightB d = true) {far : List Nat} {r s : Nat} (h : Rnd d far r s d.cls.length) : Rnd d far r (s + 1) 0 := by
  refine ⟨h.fr, h.upto, fun t ht hlt b hb hl => ?_, fun c hc => absurd hc (Nat.not_lt_zero _)⟩
  rcases Nat.lt_or_eq_of_le (Nat.le_of_lt_succ ht) with ht | ht
  · exact h.below t ht hlt b hb hl
  · subst ht
    cases b with
    | nil => exact h.upto t hlt [] hb (Nat.zero_le _)
    | cons c b => exact h.here c (clsOf_range hd c.toNat_lt) b hb (by simpa using hl)
theorem Rnd.turn {d : Dfa} {far : List Nat} {r : Nat} (h : Rnd d far r d.next.length 0) : Rnd d far (r + 1) 0 0 :=
  ⟨h.fr, fun s hs b hb hl => h.below s hs hs b hb hl, fun t ht => absurd ht (Nat.not_lt_zero _), fun c hc => absurd hc (Nat.not_lt_zero _)⟩
/-- The distances, exactly. -/
structure Dist (d : Dfa) (far : List Nat) : Prop where
  fr : Far d far
  least : ∀ s, s < d.next.length → ∀ b : List UInt8, accB d (runD d s b) = true → far.getD s 0 ≤ b.length
theorem Rnd.dist {d : Dfa} {far : List Nat} (h : Rnd d far d.next.length 0 0) : Dist d far :=
  ⟨h.fr, fun s hs b hb => by
    rcases Nat.lt_or_ge d.next.length b.length with hl | hl
    · have := h.fr.rng s hs; omega
    · exact h.upto s hs b hb hl⟩
theorem runD_app (d : Dfa) (s : Nat) (a b : List UInt8) : runD d s (a ++ b) = runD d (runD d s a) b := by simp [runD]
theorem min_acc (d : Dfa) (s : Nat) : ∀ (L : Nat) (b : List UInt8), b.length ≤ L → accB d (runD d s b) = true → ∃ b', accB d (runD d s b') = true ∧ ∀ c, accB d (runD d s c) = true → b'.length ≤ c.length
  | 0, b, hl, hb => ⟨b, hb, fun c _ => by omega⟩
  | L + 1, b, hl, hb => by
    by_cases h : ∃ c, accB d (runD d s c) = true ∧ c.length < b.length
    · obtain ⟨c, hc, hcl⟩ := h
      exact min_acc d s L c (by omega) hc
    · exact ⟨b, hb, fun c hc => by
        apply Nat.le_of_not_lt; intro hlt; exact h ⟨c, hc, hlt⟩⟩
/-- The shortest string that is accepted is shorter than there are states. -/
theorem short_acc {d : Dfa} (hd : rightB d = true) {s : Nat} (hs : s < d.next.length) {b : List UInt8} (hb : accB d (runD d s b) = true) : ∃ b', accB d (runD d s b') = true ∧ b'.length < d.next.length := by
  obtain ⟨m, hm, hmin⟩ := min_acc d s b.length b (Nat.le_refl _) hb
  refine ⟨m, hm, ?_⟩
  have h1 : ((List.range (m.length + 1)).map fun i => runD d s (m.take i)).Nodup := by
    unfold List.Nodup
    rw [List.pairwise_map]
    refine List.Pairwise.imp_of_mem ?_ List.pairwise_lt_range
    intro i j hi hj hij e
    have hj' := List.mem_range.1 hj
    have h2 : accB d (runD d s (m.take i ++ m.drop j)) = true := by
      rw [runD_app, e, ← runD_app, List.take_append_drop]; exact hm
    have h3 := hmin _ h2
    simp at h3; omega
  have h2 := nodup_le d.next.length _ h1 (fun x hx => by
    obtain ⟨i, _, rfl⟩ := List.mem_map.1 hx
    exact runD_lt hd _ hs)
  simp at h2; omega
theorem Dist.lt {d : Dfa} (hd : rightB d = true) {far : List Nat} (h : Dist d far) {s : Nat} (hs : s < d.next.length) {b : List UInt8} (hb : accB d (runD d s b) = true) : far.getD s 0 < d.next.length := by
  obtain ⟨m, hm, hl⟩ := short_acc hd hs hb
  have := h.least s hs m hm; omega
/-- The least byte that leads nearer. -/
def leastC (d : Dfa) (far : List Nat) (s : Nat) : Nat := (List.range 256).findIdx fun c => far.getD (dlt d s c) 0 == far.getD s 0 - 1
def grd (d : Dfa) (far : List Nat) : Nat → Nat → List UInt8
  | 0, _ => []
  | r + 1, s => UInt8.ofNat (leastC d far s) :: grd d far r (dlt d s (leastC d far s))
theorem leastC_spec {d : Dfa} (hd : rightB d = true) {far : List Nat} (h : Dist d far) {s r : Nat} (hs : s < d.next.length) (hr : far.getD s 0 = r + 1) (hn : r + 1 < d.next.length) :
    leastC d far s < 256 ∧ far.getD (dlt d s (leastC d far s)) 0 = r ∧ ∀ c, c < leastC d far s → far.getD (dlt d s c) 0 ≠ r := by
  obtain ⟨b, hb, hacc⟩ := h.fr.sound s hs (by omega)
  have hex : ∃ x ∈ List.range 256, (far.getD (dlt d s x) 0 == far.getD s 0 - 1) = true := by
    cases b with
    | nil => rw [List.length_nil] at hb; omega
    | cons c t =>
      refine ⟨c.toNat, List.mem_range.2 c.toNat_lt, ?_⟩
      have hlt := dlt_lt hd hs c.toNat_lt
      have h1 := h.least _ hlt t hacc
      rw [List.length_cons] at hb
      rw [beq_iff_eq, hr]
      have h2 : ¬ far.getD (dlt d s c.toNat) 0 < r := fun hl => by
        obtain ⟨u, hu, hua⟩ := h.fr.sound _ hlt (by omega)
        have := h.least s hs (c :: u) hua
        rw [List.length_cons] at this; omega
      omega
  have hlt : (List.range 256).findIdx (fun c => far.getD (dlt d s c) 0 == far.getD s 0 - 1) < (List.range 256).length := List.findIdx_lt_length.2 hex
  have hg := List.findIdx_getElem (w := hlt)
  rw [List.getElem_range, beq_iff_eq, hr] at hg
  rw [List.length_range] at hlt
  have hg' : far.getD (dlt d s (leastC d far s)) 0 = r := by unfold leastC; rw [hr]; exact hg
  refine ⟨hlt, hg', fun c hc e => ?_⟩
  have := List.not_of_lt_findIdx hc
  rw [List.getElem_range, hr] at this
  exact absurd e (beq_eq_false_iff_ne.1 (by simpa only [Bool.not_eq_true, Nat.add_sub_cancel] using this))
theorem grd_spec {d : Dfa} (hd : rightB d = true) {far : List Nat} (h : Dist d far) : ∀ (r s : Nat), s < d.next.length → far.getD s 0 = r → r < d.next.length →
    (grd d far r s).length = r ∧ accB d (runD d s (grd d far r s)) = true ∧ ∀ b : List UInt8, accB d (runD d s b) = true → b.length = r → grd d far r s = b ∨ lexL (grd d far r s) b
  | 0, s, hs, hr, hn => by
    obtain ⟨b, hb, hacc⟩ := h.fr.sound s hs (by omega)
    rw [hr] at hb
    obtain rfl := List.length_eq_zero_iff.1 hb
    exact ⟨rfl, hacc, fun b _ hl => .inl (List.length_eq_zero_iff.1 hl).symm⟩
  | r + 1, s, hs, hr, hn => by
    obtain ⟨h1, h2, h3⟩ := leastC_spec hd h hs hr hn
    have hlt := dlt_lt hd hs h1
    obtain ⟨g1, g2, g3⟩ := grd_spec hd h r (dlt d s (leastC d far s)) hlt h2 (by omega)
    have e : (UInt8.ofNat (leastC d far s)).toNat = leastC d far s := UInt8.toNat_ofNat_of_lt' (by simpa using h1)
    refine ⟨by simp [grd, g1], by unfold grd; rw [runD_cons, e]; exact g2, fun b hb hl => ?_⟩
    cases b with
    | nil => rw [List.length_nil] at hl; omega
    | cons c t =>
      rw [List.length_cons] at hl
      replace hl : t.length = r := by omega
      have hcl := dlt_lt hd hs c.toNat_lt
      have k1 := h.least _ hcl t hb
      have k2 : ¬ far.getD (dlt d s c.toNat) 0 < r := fun hl => by
        obtain ⟨u, hu, hua⟩ := h.fr.sound _ hcl (by omega)
        have := h.least s hs (c :: u) hua
        rw [List.length_cons] at this; omega
      have k3 : ¬ c.toNat < leastC d far s := fun hl => h3 _ hl (by omega)
      unfold grd
      rcases Nat.lt_or_eq_of_le (Nat.le_of_not_lt k3) with k | k
      · exact .inr (.inl (by rw [e]; exact k))
      · have ec : UInt8.ofNat (leastC d far s) = c := by rw [k]; simp
        rw [k] at g3 ⊢
        rcases g3 t hb hl with q | q
        · exact .inl (by rw [q]; simp)
        · exact .inr (.inr ⟨by simp, q⟩)
theorem first_none {d : Dfa} (hd : rightB d = true) {far : List Nat} (h : Dist d far) (h0 : far.getD 0 0 = d.next.length) : FirstOf d none := fun b => by
  have hn := (right_len hd).1
  cases hb : accB d (runD d 0 b) with
  | false => rfl
  | true => have := h.lt hd (by omega) hb; omega
theorem first_some {d : Dfa} (hd : rightB d = true) {far : List Nat} (h : Dist d far) (h0 : far.getD 0 0 < d.next.length) : FirstOf d (some (grd d far (far.getD 0 0) 0)) := by
  have hn := (right_len hd).1
  obtain ⟨g1, g2, g3⟩ := grd_spec hd h _ 0 (by omega) rfl h0
  refine ⟨g2, fun b hb => ?_⟩
  have hl := h.least 0 (by omega) b hb
  rcases Nat.lt_or_eq_of_le hl with k | k
  · exact .inr (.inl (by rw [g1]; exact k))
  · rcases g3 b hb k.symm with q | q
    · exact .inl q
    · exact .inr (.inr ⟨by rw [g1]; exact k, q⟩)
/-- The distances ahead of the first round. -/
def far0 (d : Dfa) : List Nat := d.marks.map fun m => if m.length = 0 then d.next.length else 0
theorem Rnd.start {d : Dfa} (hd : rightB d = true) : Rnd d (far0 d) 0 0 0 := by
  obtain ⟨h1, _, h3⟩ := right_len hd
  have hat : ∀ s, s < d.next.length → (far0 d).getD s 0 = if accB d s = true then 0 else d.next.length := fun s hs => by
    have hsm : s < d.marks.length := by omega
    have e : accB d s = decide (0 < d.marks[s].length) := by simp [accB, List.getD_eq_getElem?_getD, List.getElem?_eq_getElem hsm]
    rw [e, far0, List.getD_eq_getElem?_getD, List.getElem?_map, List.getElem?_eq_getElem hsm]
    simp only [Option.map_some, Option.getD_some, decide_eq_true_eq]
    by_cases hz : d.marks[s].length = 0
    · rw [if_pos hz, if_neg (by omega)]
    · rw [if_neg hz, if_pos (by omega)]
  have hz : ∀ s, s < d.next.length → accB d s = true → (far0 d).getD s 0 = 0 := fun s hs ha => by rw [hat s hs, if_pos ha]
  refine ⟨⟨by simp [far0, h3], fun s hs => ?_, fun s hs hl => ?_, hz⟩, fun s hs b hb hl => ?_, fun t ht => absurd ht (Nat.not_lt_zero _), fun c hc => absurd hc (Nat.not_lt_zero _)⟩
  · rw [hat s hs]; split <;> omega
  · rw [hat s hs] at hl ⊢
    by_cases ha : accB d s = true
    · rw [if_pos ha]; exact ⟨[], rfl, ha⟩
    · rw [if_neg ha] at hl; omega
  · obtain rfl := List.length_eq_zero_iff.1 (Nat.le_zero.1 hl)
    rw [hz s hs hb]; exact Nat.le_refl _
end Rp
end
