/- The reference's count: how many strings of a length lead to a state with a mark, up to a bound; it calls itself. -/
import Derived.Test.YtmfijgigfianeaaGreatGrCount
import Derived.Test.YtmfijgigfianeaaGreatGrFar
import Derived.Test.YtmfijgigfianeaaGreatGrOfr
set_option linter.unusedVariables false
set_option linter.unusedSimpArgs false
namespace Go.Proofs
open Go Go.RowKit Go.Shelf Rp Go.Maps
attribute [local go_sem] Oper.semAt_some
theorem rangeB {w w' : World} {b o : Nat} {cs : List Value} (hB : Below w.heap.size w w') (h : w.rangeAt b o cs) : w'.rangeAt b o cs := fun j v hv => bcellS hB (h j v hv)
set_option maxRecDepth 100000 in
set_option maxHeartbeats 6400000 in
theorem c_refCnt0 (A1 A2 A3 : Option Addr) (k1 k2 k3 : Nat) (d : Dfa) (F : Nat → Prop) (hr : rightB d = true) : ∀ (n : Nat) (w : World), n ≤ 64 → DfaT w F ⟨A1, k1, A2, k2, A3, k3⟩ d →
    Calls Tryz.prog 59 #[.agg #[.slice A1 d.cls.length k1, .slice A2 d.next.length k2, .slice A3 d.marks.length k3], .int .i64 (n : Int)] w
      fun e w' => ∃ g, e = .returned (.slice (some ⟨g, 0, none⟩) d.next.length d.next.length) ∧ OwnS Kint 3 w' w.heap.size (fun b => w.heap.size ≤ b) (.slice (some ⟨g, 0, none⟩) d.next.length d.next.length) (cntAll d n) ∧ Below w.heap.size w w' := fun n => by
  have hmi := run_make1 (P := Tryz.prog) 36 3 (.int .i64 0) 8 d.next.length Tryz.underlying36 info_int rfl (by have := right_len hr; omega) (by have := right_len hr; omega)
  have hlen := right_len hr
  obtain ⟨hN0, hN1, hML⟩ := hlen
  induction n with
  | zero =>
    intro w hn hT
    have HML := Lib.hid hML
    clear hML
    have e0 : ((0 : Nat) : Int) = 0 := rfl
    rw [e0]
    clear e0
    go_enter Tryz.func59, Tryz.ntmps59
    go_upto_region 1 with (fail)
    refine wp_name fun W0 hW0 => ?_
    have q0 : W0.heap[w.heap.size]? = some (.cells #[.slice A1 d.cls.length k1, .slice A2 d.next.length k2, .slice A3 d.marks.length k3] 42 (0, 0)) := by
      rw [← hW0]; exact World.alloc_heap_new w _
    have hB0 : Below w.heap.size w W0 := by rw [← hW0]; exact (Below.refl _ _).alloc (Nat.le_refl _) _
    have hz0 : w.heap.size < W0.heap.size := by rw [← hW0]; simp
    clear hW0
    obtain ⟨c0, c1, c2⟩ := cells3 q0
    have hO0 := OwnS.made (enc := Value.int .i64) (ok := inI64) (h1 := fun _ => rfl) W0 3 W0.heap.size d.next.length (fun b => b = W0.heap.size) 0 (by constructor <;> omega) (Nat.le_refl _) rfl (by omega)
    have HT := Lib.hid hT
    clear hT
    go_upto_region 2 with (fail)
    refine wp_name fun W2 hW2 => ?_
    rw [hW2] at hO0
    have hB2 : Below W0.heap.size W0 W2 := by rw [← hW2]; exact (Below.refl _ _).alloc (Nat.le_refl _) _
    clear hW2 c0 c1 c2
    go_wp2
    go_loopg [6] (d.next.length + 1) (fun gk vk wr => ∃ (k : Nat), vk = .int .i64 (k : Int) ∧ k ≤ d.next.length ∧ gk + k = d.next.length + 1 ∧ OwnS Kint 3 wr W0.heap.size (fun b => b = W0.heap.size) (.slice (some ⟨W0.heap.size, 0, none⟩) d.next.length d.next.length) ((d.marks.take k).map cnt0 ++ List.replicate (d.marks.length - k) 0) ∧ Below W0.heap.size W0 wr)
    case atStart => exact ⟨0, rfl, Nat.zero_le _, by omega, by simp only [List.take_zero, List.map_nil, List.nil_append, Nat.sub_zero, HML.out]; exact hO0, hB2⟩
    case round =>
      obtain ⟨k, rfl, hk, hgk, hO, hB⟩ := hrel
      have HG := Lib.hid hgk
      clear hgk
      have hBr : Below w.heap.size w wr := hB0.trans (hB.mono hB0.size)
      obtain ⟨c0, c1, c2⟩ := cells3 ((hB.block _ hz0).trans q0)
      by_cases hlt : k < d.next.length
      · have hlt' : (k : Int) < d.next.length := by omega
        have hk0 : (0 : Int) ≤ k := by omega
        have hltm : k < d.marks.length := by rw [HML.out]; exact hlt
        have hk1 : (k : Int) < d.marks.length := by rw [HML.out]; omega
        obtain ⟨b3, o3, B3, cp3, e3, hF3, hb3, p3, hl3, hm3, _⟩ := S_slice (S_below HT.out.t3 hBr) hltm
        obtain rfl : A3 = some ⟨b3, o3, none⟩ := e3
        have hst := fill_step cnt0 0 d.marks k hltm
        have hfm := fill_mid cnt0 0 d.marks k hltm
        have hfn := fill_next cnt0 0 d.marks k hltm
        have hcl : ((d.marks.take k).map cnt0 ++ List.replicate (d.marks.length - k) (0 : Int)).length = d.marks.length := by simp; omega
        have hcn : cnt0 d.marks[k] = min (d.marks[k].length : Int) 1 := rfl
        have hz : ((d.marks.take k).map cnt0 ++ List.replicate (d.marks.length - k) (0 : Int))[k]? = some 0 := by
          rw [hfm, List.getElem?_append_right (by simp; omega)]
          have : k - ((d.marks.take k).map cnt0).length = 0 := by simp; omega
          rw [this]; rfl
        obtain ⟨u0, vf, hgl, _, _, _⟩ := hO.at1 hz
        have vf0 := vf k
        have hO1 := hO.set (enc := Value.int .i64) (i := k) (by omega) (x := 1) (by constructor <;> omega)
        have HST := Lib.hid hst
        have HCN := Lib.hid hcn
        have HB := Lib.hid hB
        have HFM := Lib.hid hfm
        have HFN := Lib.hid hfn
        have HO := Lib.hid hO
        have HO1 := Lib.hid hO1
        clear hO hO1 hst hcn hcl hB hBr vf hz hfm hfn
        generalize d.marks[k] = m at *
        by_cases hm : m.length = 0
        · have hm' : ¬ (0 : Int) < m.length := by omega
          have HM := Lib.hid hm
          clear hm
          go_wp2
          go_roundg (gk - 1)
          case measure => have := HG.out; omega
          case rel =>
            refine ⟨k + 1, by go_num, by omega, by have := HG.out; omega, ?_, HB.out⟩
            have h0 : cnt0 m = 0 := by rw [HCN.out, HM.out]; rfl
            have h1 := HFN.out
            rw [h0, ← HFM.out] at h1
            rw [← h1]; exact HO.out
        · have hm' : (0 : Int) < m.length := by omega
          have HM := Lib.hid hm
          clear hm
          go_wp2
          go_roundg (gk - 1)
          case measure => have := HG.out; omega
          case rel =>
            refine ⟨k + 1, by go_num, by omega, by have := HG.out; omega, ?_, HB.out.setCell (Nat.le_refl _) _⟩
            have h0 : cnt0 m = 1 := by rw [HCN.out]; have := HM.out; omega
            have h1 := HST.out
            rw [h0] at h1
            rw [← h1]; exact HO1.out
      · obtain rfl : k = d.next.length := by omega
        have hge : ¬ ((d.next.length : Int) < d.next.length) := by omega
        rw [← HML.out, List.take_length, Nat.sub_self, List.replicate_zero, List.append_nil, HML.out] at hO
        have hO0 : OwnS Kint 3 wr W0.heap.size (fun b => b = W0.heap.size) (.slice (some ⟨W0.heap.size, 0, none⟩) d.next.length d.next.length) (cntAll d 0) := hO
        have HO := Lib.hid hO0
        clear hO hO0 c0 c1 c2
        go_wp2
        go_ret
        exact ⟨W0.heap.size, rfl, (HO.out.lower hB0.size).mono fun b hb => by omega, hBr⟩
  | succ n ih =>
    intro w hn hT
    have HML := Lib.hid hML
    clear hML
    obtain ⟨N, hN⟩ : ∃ N : Int, N = ((n + 1 : Nat) : Int) := ⟨_, rfl⟩
    rw [← hN]
    have hne : (N == 0) = false := by simp; omega
    have hN' : N - 1 = (n : Int) := by omega
    have hNlo : 1 ≤ N := by omega
    have hNhi : N ≤ 64 := by omega
    have hih := fun W' (hW' : Below w.heap.size w W') => ih W' (by omega) (hT.below hW')
    rw [← hN'] at hih
    clear ih hN hN'
    go_enter Tryz.func59, Tryz.ntmps59
    go_upto_region 1 with (fail)
    refine wp_name fun W0 hW0 => ?_
    have q0 : W0.heap[w.heap.size]? = some (.cells #[.slice A1 d.cls.length k1, .slice A2 d.next.length k2, .slice A3 d.marks.length k3] 42 (0, 0)) := by
      rw [← hW0]; exact World.alloc_heap_new w _
    have hB0 : Below w.heap.size w W0 := by rw [← hW0]; exact (Below.refl _ _).alloc (Nat.le_refl _) _
    have hz0 : w.heap.size < W0.heap.size := by rw [← hW0]; simp
    clear hW0
    obtain ⟨c0, c1, c2⟩ := cells3 q0
    have hO0 := OwnS.made (enc := Value.int .i64) (ok := inI64) (h1 := fun _ => rfl) W0 3 W0.heap.size d.next.length (fun b => b = W0.heap.size) 0 (by constructor <;> omega) (Nat.le_refl _) rfl (by omega)
    have HT := Lib.hid hT
    clear hT
    go_upto_region 2 with (fail)
    refine wp_name fun W2 hW2 => ?_
    rw [hW2] at hO0
    have hB2 : Below W0.heap.size W0 W2 := by rw [← hW2]; exact (Below.refl _ _).alloc (Nat.le_refl _) _
    have hz2 : W0.heap.size < W2.heap.size := by rw [← hW2]; simp
    clear hW2 c0 c1 c2
    have hBw2 := hB0.trans (hB2.mono hB0.size)
    have q2 := (hB2.block _ hz0).trans q0
    obtain ⟨c0, c1, c2⟩ := cells3 q2
    have hc := hih W2 hBw2
    clear hih
    go_upto_region 10 with (go_at_call 59; refine hc.mono ?_; rintro e w3 ⟨gl, rfl, hOl, hB3⟩)
    have q3 := (hB3.block _ (Nat.lt_trans hz0 hz2)).trans q2
    have hBw3 := hBw2.trans (hB3.mono hBw2.size)
    have hO3 := hO0.below hB3
    have hgl : W2.heap.size ≤ gl := hOl.1 gl rfl
    have hz3 := hB3.size
    clear hc c0 c1 c2 hO0 hB2 hB0 hB3 q0 q2 hmi
    have HQ := Lib.hid q3
    have HOl := Lib.hid hOl
    have HBw := Lib.hid hBw3
    clear q3 hOl hBw3
    go_wp2
    go_loopg [8] (d.next.length + 1) (fun gk vk wr => ∃ (s : Nat), vk = .int .i64 (s : Int) ∧ s ≤ d.next.length ∧ gk + s = d.next.length + 1 ∧ OwnS Kint 3 wr W0.heap.size (fun b => b = W0.heap.size) (.slice (some ⟨W0.heap.size, 0, none⟩) d.next.length d.next.length) ((d.next.take s).map (fun l => cntRow d (cntAll d n) l l.length) ++ List.replicate (d.next.length - s) 0) ∧ Kp (fun b => b = W0.heap.size) w3 wr)
    case atStart => exact ⟨0, rfl, Nat.zero_le _, by omega, by simp only [List.take_zero, List.map_nil, List.nil_append, Nat.sub_zero]; exact hO3, Kp.refl _ _⟩
    case round =>
      obtain ⟨s, rfl, hs, hgk, hO, hK⟩ := hrel
      have HG3 := Lib.hid hgk
      clear hgk hO3
      have hBwr : Below w.heap.size w wr := HBw.out.trans (hK.below HBw.out.size (fun i hi e => by omega))
      have hzr5 := hK.size
      by_cases hls : s < d.next.length
      · have hls' : (s : Int) < d.next.length := by omega
        have hs0 : (0 : Int) ≤ s := by omega
        obtain ⟨b2, o2, B2, cp2, e2, hF2, hb2, p2, hl2, hm2, hS2⟩ := S_slice (S_below HT.out.t2.bound hBwr) hls
        obtain rfl : A2 = some ⟨b2, o2, none⟩ := e2
        have hrow := right_row hr hls
        have hfm := fill_mid (fun l => cntRow d (cntAll d n) l l.length) 0 d.next s hls
        have hfn := fill_next (fun l => cntRow d (cntAll d n) l l.length) 0 d.next s hls
        have hAl : ((d.next.take s).map (fun l => cntRow d (cntAll d n) l l.length)).length = s := by simp; omega
        have hz0' : cntRow d (cntAll d n) d.next[s] 0 = 0 := rfl
        rw [hfm, ← hz0'] at hO
        try dsimp only at hfn
        generalize (d.next.take s).map (fun l => cntRow d (cntAll d n) l l.length) = AA at *
        have HFN := Lib.hid hfn
        have HROW := Lib.hid hrow
        have HAL := Lib.hid hAl
        have HS2 := Lib.hid hS2
        have HO3 := Lib.hid hO
        have HK3 := Lib.hid hK
        have HBwr := Lib.hid hBwr
        have HP2 := Lib.hid p2
        clear hfm hfn hrow hAl hz0' hS2 hO hK hBwr p2
        obtain ⟨wc, rfl⟩ : ∃ x : World, x = wr := ⟨_, rfl⟩
        obtain ⟨gc, rfl⟩ : ∃ x : Nat, x = gk := ⟨_, rfl⟩
        go_wp2
        go_loopg [9] (d.cls.length + 1) (fun gk vk wr => ∃ (k : Nat), vk = .int .i64 (k : Int) ∧ k ≤ d.cls.length ∧ gk + k = d.cls.length + 1 ∧ OwnS Kint 3 wr W0.heap.size (fun b => b = W0.heap.size) (.slice (some ⟨W0.heap.size, 0, none⟩) d.next.length d.next.length) (AA ++ cntRow d (cntAll d n) d.next[s] k :: List.replicate (d.next.length - (s + 1)) 0) ∧ Kp (fun b => b = W0.heap.size) w3 wr)
        case atStart => exact ⟨0, rfl, Nat.zero_le _, by omega, HO3.out, HK3.out⟩
        case round =>
          obtain ⟨k, rfl, hk, hgk, hO, hK⟩ := hrel
          have HG4 := Lib.hid hgk
          clear hgk
          have hBwr : Below w.heap.size w wr := HBw.out.trans (hK.below HBw.out.size (fun i hi e => by omega))
          have hq0 := hK.heap HQ.out (by omega)
          obtain ⟨c0, c1, c2⟩ := cells3 hq0
          have hzr5 := hK.size
          by_cases hlk : k < d.cls.length
          · have hlk1 : k < d.next[s].length := by rw [HROW.out.1]; exact hlk
            have hk0 : (0 : Int) ≤ k := by omega
            have hlk' : (k : Int) < d.next[s].length := by omega
            have hk2 : (k : Int) < d.cls.length := by omega
            have hk3 : (k : Int) + 1 ≤ 256 := by have := (right_parts_facts hr).2.2.1; omega
            have hsame : ∀ b, b < w.heap.size → wr.heap[b]? = wc.heap[b]? := fun b hb => (hBwr.block b hb).trans (HBwr.out.block b hb).symm
            obtain ⟨b4, o4, e4', hF4, hb4, z20, _⟩ := S_int (HS2.out.step (w1 := wr) fun b hb _ => hsame b hb.2) hlk1
            obtain rfl : B2 = some ⟨b4, o4, none⟩ := e4'
            obtain ⟨b5, o5, e5', hF5, hb5, z10⟩ := range_ref (S_below HT.out.t1 hBwr) hlk
            obtain rfl : A1 = some ⟨b5, o5, none⟩ := e5'
            have z17 : wr.cell? ⟨b2, o2 + s, none⟩ = some (.slice (some ⟨b4, o4, none⟩) d.next[s].length cp2) := by rw [← HP2.out]; exact World.cell?_of_block (hsame b2 hF2.2)
            have hrng := HROW.out.2 _ (List.getElem_mem hlk1)
            obtain ⟨t, ht⟩ : ∃ t : Nat, d.next[s][k] = (t : Int) := ⟨(d.next[s][k]).toNat, by omega⟩
            rw [ht] at z20 hrng
            have ht0 : (0 : Int) ≤ t := by omega
            have ht1 : (t : Int) < d.next.length := by omega
            have hmn := (cntAll_bnd d n).at t
            have hml := cntAll_len HML.out n
            have hmt : (cntAll d n)[t]? = some ((cntAll d n).getD t 0) := by rw [List.getD_eq_getElem?_getD, List.getElem?_eq_getElem (by omega)]; rfl
            have hOm := HOl.out.keep hK (fun b hb _ e => by omega)
            obtain ⟨z22, _, _, _, _, _⟩ := hOm.at1 hmt
            have hac := cntRow_rng d (cntAll_bnd d n) d.next[s] k
            have hsuc := cntRow_succ d (cntAll d n) d.next[s] k
            have hcf : cntF d (cntAll d n) d.next[s] (cntRow d (cntAll d n) d.next[s] k) k = min (cntRow d (cntAll d n) d.next[s] k + sizeI d.cls[k] * (cntAll d n).getD t 0) maxC := by
              unfold cntF
              rw [List.getD_eq_getElem?_getD (l := d.cls), List.getElem?_eq_getElem hlk, List.getD_eq_getElem?_getD (l := d.next[s]), List.getElem?_eq_getElem hlk1, Option.getD_some, Option.getD_some, ht, Int.toNat_natCast]
            rw [hcf] at hsuc
            have hxs : (AA ++ cntRow d (cntAll d n) d.next[s] k :: List.replicate (d.next.length - (s + 1)) (0 : Int))[s]? = some (cntRow d (cntAll d n) d.next[s] k) := by
              rw [List.getElem?_append_right (by rw [HAL.out]; exact Nat.le_refl _), HAL.out, Nat.sub_self]; rfl
            obtain ⟨z5, vf, hglt, _, _, _⟩ := hO.at1 hxs
            have hAB : (AA ++ cntRow d (cntAll d n) d.next[s] k :: List.replicate (d.next.length - (s + 1)) (0 : Int)).length = d.next.length := by simp [HAL.out]; omega
            have hsz := sizeI_rng d.cls[k]
            have hmul := mul_rng hsz.1 hsz.2 hmn.1 hmn.2
            have hms := fun x y => mid_set AA (List.replicate (d.next.length - (s + 1)) (0 : Int)) x y
            rw [HAL.out] at hms
            have hcl := fun W' => c_refSize d.cls[k] W'
            simp only [maxC] at hac hmn hmul hsuc
            have hmul2 : IntKind.i64.wrap (sizeI d.cls[k] * (cntAll d n).getD t 0) = sizeI d.cls[k] * (cntAll d n).getD t 0 := IntWalk.i64_in _ (by omega)
            have hadd2 : IntKind.i64.wrap (cntRow d (cntAll d n) d.next[s] k + sizeI d.cls[k] * (cntAll d n).getD t 0) = cntRow d (cntAll d n) d.next[s] k + sizeI d.cls[k] * (cntAll d n).getD t 0 := IntWalk.i64_in _ (by omega)
            obtain ⟨nv, hnv⟩ : ∃ nv, cntRow d (cntAll d n) d.next[s] k + sizeI d.cls[k] * (cntAll d n).getD t 0 = nv := ⟨_, rfl⟩
            have hnv1 : inI64 nv := by constructor <;> omega
            have hsetv : ∀ W', Below wr.heap.size wr W' → OwnS Kint 3 (W'.setCell ⟨W0.heap.size, s, none⟩ (.int .i64 nv)) W0.heap.size (fun b => b = W0.heap.size) (.slice (some ⟨W0.heap.size, 0, none⟩) d.next.length d.next.length) (AA ++ nv :: List.replicate (d.next.length - (s + 1)) 0) := fun W' hW' => by
              have h1 := (hO.below hW').set (enc := Value.int .i64) (i := s) (by rw [hAB]; exact hls) hnv1
              rw [hms] at h1
              exact h1
            rw [hnv] at hadd2 hsuc
            have HSV := Lib.hid hsetv
            have HSUC := Lib.hid hsuc
            have HKF := Lib.hid hK
            have HMS := Lib.hid hms
            have z7 := c0
            have z14 := c1
            have mf0 := vf s
            have hnvr : 0 ≤ nv ∧ nv ≤ 281474976710656 + 1099511627776 := by rw [← hnv]; omega
            clear hsetv hsuc hK hms hxs hAB hOm hmt hml hcf ht hrng hO hBwr vf c0 c1 c2 hac hmn hmul hsz hF4 hF5 hq0 hsame hnv1
            generalize cntRow d (cntAll d n) d.next[s] k = ac at *
            generalize (cntAll d n).getD t 0 = mt at *
            generalize sizeI d.cls[k] = sk at *
            have HNV := Lib.hid hnv
            clear hnv
            generalize d.cls[k] = ck at *
            obtain ⟨SS, hSS⟩ : ∃ S : World → Prop, S = fun w' => Below wr.heap.size wr w' := ⟨_, rfl⟩
            have hSi : ∀ W', SS W' → Below wr.heap.size wr W' := fun W' h => by rw [hSS] at h; exact h
            have hS : SS wr.drew := by rw [hSS]; exact (Below.refl _ _).drew
            have hSb : ∀ W' W'', SS W' → Below W'.heap.size W' W'' → SS W'' := fun W' W'' h h2 => by rw [hSS] at h ⊢; exact h.trans (h2.mono h.size)
            clear hSS
            go_wp2
            refine wp_region_noPanic (wp_region_T SS [5, 7, 10, 14, 17, 20, 22] (by kernel_rfl) ?_)
            refine wpAnyT_takeY (i := 0) (v := ?v0_1) rfl (by kernel_rfl) (by kernel_rfl) (by kernel_rfl) (fun _ _ _ h => h) (by rfl) ?hy0_1 ?r0_1
            case hy0_1 => (intro w; go_simp; try (with_reducible rfl))
            case r0_1 =>
            try simp only [Act.put, List.setIfInBounds_toArray, List.set_cons_zero, List.set_cons_succ]
            refine wpAnyT_takeY (i := 1) (v := ?v1_2) rfl (by kernel_rfl) (by kernel_rfl) (by kernel_rfl) (fun _ _ _ h => h) (by rfl) ?hy1_2 ?r1_2
            case hy1_2 => (intro w; go_simp; try (with_reducible rfl))
            case r1_2 =>
            try simp only [Act.put, List.setIfInBounds_toArray, List.set_cons_zero, List.set_cons_succ]
            refine wpAnyT_takeY (i := 2) (v := ?v2_3) rfl (by kernel_rfl) (by kernel_rfl) (by kernel_rfl) (fun _ _ _ h => h) (by rfl) ?hy2_3 ?r2_3
            case hy2_3 => (intro w; go_simp; try (with_reducible rfl))
            case r2_3 =>
            try simp only [Act.put, List.setIfInBounds_toArray, List.set_cons_zero, List.set_cons_succ]
            refine wpAnyT_takeY (i := 3) (v := ?v3_4) rfl (by kernel_rfl) (by kernel_rfl) (by kernel_rfl) (fun _ _ _ h => h) (by rfl) ?hy3_4 ?r3_4
            case hy3_4 => (intro w; go_simp; try (with_reducible rfl))
            case r3_4 =>
            try simp only [Act.put, List.setIfInBounds_toArray, List.set_cons_zero, List.set_cons_succ]
            refine wpAnyT_takeY (i := 4) (v := ?v4_5) rfl (by kernel_rfl) (by kernel_rfl) (by kernel_rfl) (fun _ _ _ h => h) (by rfl) ?hy4_5 ?r4_5
            case hy4_5 => (intro w; go_simp; try (with_reducible rfl))
            case r4_5 =>
            try simp only [Act.put, List.setIfInBounds_toArray, List.set_cons_zero, List.set_cons_succ]
            refine wpAnyT_takeY (i := 6) (v := ?v6_6) rfl (by kernel_rfl) (by kernel_rfl) (by kernel_rfl) (fun _ _ _ h => h) (by rfl) ?hy6_6 ?r6_6
            case hy6_6 => (intro w; go_simp; try (with_reducible rfl))
            case r6_6 =>
            try simp only [Act.put, List.setIfInBounds_toArray, List.set_cons_zero, List.set_cons_succ]
            refine wpAnyT_takeY (i := 8) (v := ?v8_7) rfl (by kernel_rfl) (by kernel_rfl) (by kernel_rfl) (fun _ _ _ h => h) (by rfl) ?hy8_7 ?r8_7
            case hy8_7 => (intro w; go_simp; try (with_reducible rfl))
            case r8_7 =>
            try simp only [Act.put, List.setIfInBounds_toArray, List.set_cons_zero, List.set_cons_succ]
            refine wpAnyT_takeY (i := 12) (v := ?v12_8) rfl (by kernel_rfl) (by kernel_rfl) (by kernel_rfl) (fun _ _ _ h => h) (by rfl) ?hy12_8 ?r12_8
            case hy12_8 => (intro w; go_simp; try (with_reducible rfl))
            case r12_8 =>
            try simp only [Act.put, List.setIfInBounds_toArray, List.set_cons_zero, List.set_cons_succ]
            refine wpAnyT_takeY (i := 13) (v := ?v13_9) rfl (by kernel_rfl) (by kernel_rfl) (by kernel_rfl) (fun _ _ _ h => h) (by rfl) ?hy13_9 ?r13_9
            case hy13_9 => (intro w; go_simp; try (with_reducible rfl))
            case r13_9 =>
            try simp only [Act.put, List.setIfInBounds_toArray, List.set_cons_zero, List.set_cons_succ]
            refine wpAnyT_takeY (i := 15) (v := ?v15_10) rfl (by kernel_rfl) (by kernel_rfl) (by kernel_rfl) (fun _ _ _ h => h) (by rfl) ?hy15_10 ?r15_10
            case hy15_10 => (intro w; go_simp; try (with_reducible rfl))
            case r15_10 =>
            try simp only [Act.put, List.setIfInBounds_toArray, List.set_cons_zero, List.set_cons_succ]
            refine wpAnyT_takeY (i := 18) (v := ?v18_11) rfl (by kernel_rfl) (by kernel_rfl) (by kernel_rfl) (fun _ _ _ h => h) (by rfl) ?hy18_11 ?r18_11
            case hy18_11 => (intro w; go_simp; try (with_reducible rfl))
            case r18_11 =>
            try simp only [Act.put, List.setIfInBounds_toArray, List.set_cons_zero, List.set_cons_succ]
            refine wpAnyT_take (i := 5) (v := ?v5_12) rfl rfl (by kernel_rfl) (by kernel_rfl) (by kernel_rfl) (fun _ _ _ h => h) (by rfl) hS ?hy5_12 ?r5_12
            case hy5_12 => (intro w hSw; have e5 := bcellS (hSi _ hSw) z5; have e7 := bcellS (hSi _ hSw) z7; have e14 := bcellS (hSi _ hSw) z14; have e17 := bcellS (hSi _ hSw) z17; have e20 := bcellS (hSi _ hSw) z20; have e22 := bcellS (hSi _ hSw) z22; (try dsimp only at hSw); go_simp; try (with_reducible rfl))
            case r5_12 =>
            try simp only [Act.put, List.setIfInBounds_toArray, List.set_cons_zero, List.set_cons_succ]
            refine wpAnyT_take (i := 7) (v := ?v7_13) rfl rfl (by kernel_rfl) (by kernel_rfl) (by kernel_rfl) (fun _ _ _ h => h) (by rfl) hS ?hy7_13 ?r7_13
            case hy7_13 => (intro w hSw; have e5 := bcellS (hSi _ hSw) z5; have e7 := bcellS (hSi _ hSw) z7; have e14 := bcellS (hSi _ hSw) z14; have e17 := bcellS (hSi _ hSw) z17; have e20 := bcellS (hSi _ hSw) z20; have e22 := bcellS (hSi _ hSw) z22; (try dsimp only at hSw); go_simp; try (with_reducible rfl))
            case r7_13 =>
            try simp only [Act.put, List.setIfInBounds_toArray, List.set_cons_zero, List.set_cons_succ]
            refine wpAnyT_takeY (i := 9) (v := ?v9_14) rfl (by kernel_rfl) (by kernel_rfl) (by kernel_rfl) (fun _ _ _ h => h) (by rfl) ?hy9_14 ?r9_14
            case hy9_14 => (intro w; go_simp; try (with_reducible rfl))
            case r9_14 =>
            try simp only [Act.put, List.setIfInBounds_toArray, List.set_cons_zero, List.set_cons_succ]
            refine wpAnyT_take (i := 10) (v := .agg (setA ck)) rfl rfl (by kernel_rfl) (by kernel_rfl) (by kernel_rfl) (fun _ _ _ h => h) (by rfl) hS (fun w hSw => exec_load_mid _ _ rfl b5 (o5 + k * 256) rfl _ _ (rangeB (hSi _ hSw) z10) und_ref rfl (size_refL ck)) ?_
            try simp only [Act.put, List.setIfInBounds_toArray, List.set_cons_zero, List.set_cons_succ]
            refine wpAnyT_take (i := 14) (v := ?v14_15) rfl rfl (by kernel_rfl) (by kernel_rfl) (by kernel_rfl) (fun _ _ _ h => h) (by rfl) hS ?hy14_15 ?r14_15
            case hy14_15 => (intro w hSw; have e5 := bcellS (hSi _ hSw) z5; have e7 := bcellS (hSi _ hSw) z7; have e14 := bcellS (hSi _ hSw) z14; have e17 := bcellS (hSi _ hSw) z17; have e20 := bcellS (hSi _ hSw) z20; have e22 := bcellS (hSi _ hSw) z22; (try dsimp only at hSw); go_simp; try (with_reducible rfl))
            case r14_15 =>
            try simp only [Act.put, List.setIfInBounds_toArray, List.set_cons_zero, List.set_cons_succ]
            refine wpAnyT_takeY (i := 16) (v := ?v16_16) rfl (by kernel_rfl) (by kernel_rfl) (by kernel_rfl) (fun _ _ _ h => h) (by rfl) ?hy16_16 ?r16_16
            case hy16_16 => (intro w; go_simp; try (with_reducible rfl))
            case r16_16 =>
            try simp only [Act.put, List.setIfInBounds_toArray, List.set_cons_zero, List.set_cons_succ]
            refine wpAnyT_take (i := 17) (v := ?v17_17) rfl rfl (by kernel_rfl) (by kernel_rfl) (by kernel_rfl) (fun _ _ _ h => h) (by rfl) hS ?hy17_17 ?r17_17
            case hy17_17 => (intro w hSw; have e5 := bcellS (hSi _ hSw) z5; have e7 := bcellS (hSi _ hSw) z7; have e14 := bcellS (hSi _ hSw) z14; have e17 := bcellS (hSi _ hSw) z17; have e20 := bcellS (hSi _ hSw) z20; have e22 := bcellS (hSi _ hSw) z22; (try dsimp only at hSw); go_simp; try (with_reducible rfl))
            case r17_17 =>
            try simp only [Act.put, List.setIfInBounds_toArray, List.set_cons_zero, List.set_cons_succ]
            refine wpAnyT_takeY (i := 19) (v := ?v19_18) rfl (by kernel_rfl) (by kernel_rfl) (by kernel_rfl) (fun _ _ _ h => h) (by rfl) ?hy19_18 ?r19_18
            case hy19_18 => (intro w; go_simp; try (with_reducible rfl))
            case r19_18 =>
            try simp only [Act.put, List.setIfInBounds_toArray, List.set_cons_zero, List.set_cons_succ]
            refine wpAnyT_take (i := 20) (v := ?v20_19) rfl rfl (by kernel_rfl) (by kernel_rfl) (by kernel_rfl) (fun _ _ _ h => h) (by rfl) hS ?hy20_19 ?r20_19
            case hy20_19 => (intro w hSw; have e5 := bcellS (hSi _ hSw) z5; have e7 := bcellS (hSi _ hSw) z7; have e14 := bcellS (hSi _ hSw) z14; have e17 := bcellS (hSi _ hSw) z17; have e20 := bcellS (hSi _ hSw) z20; have e22 := bcellS (hSi _ hSw) z22; (try dsimp only at hSw); go_simp; try (with_reducible rfl))
            case r20_19 =>
            try simp only [Act.put, List.setIfInBounds_toArray, List.set_cons_zero, List.set_cons_succ]
            refine wpAnyT_takeY (i := 21) (v := ?v21_20) rfl (by kernel_rfl) (by kernel_rfl) (by kernel_rfl) (fun _ _ _ h => h) (by rfl) ?hy21_20 ?r21_20
            case hy21_20 => (intro w; go_simp; try (with_reducible rfl))
            case r21_20 =>
            try simp only [Act.put, List.setIfInBounds_toArray, List.set_cons_zero, List.set_cons_succ]
            refine wpAnyT_take (i := 22) (v := ?v22_21) rfl rfl (by kernel_rfl) (by kernel_rfl) (by kernel_rfl) (fun _ _ _ h => h) (by rfl) hS ?hy22_21 ?r22_21
            case hy22_21 => (intro w hSw; have e5 := bcellS (hSi _ hSw) z5; have e7 := bcellS (hSi _ hSw) z7; have e14 := bcellS (hSi _ hSw) z14; have e17 := bcellS (hSi _ hSw) z17; have e20 := bcellS (hSi _ hSw) z20; have e22 := bcellS (hSi _ hSw) z22; (try dsimp only at hSw); go_simp; try (with_reducible rfl))
            case r22_21 =>
            try simp only [Act.put, List.setIfInBounds_toArray, List.set_cons_zero, List.set_cons_succ]
            refine wpAnyT_one (i := 11) rfl (by kernel_rfl) (by rfl) (fun K hK => ?_)
            go_simp
            refine (hcl _).mono ?_
            rintro e w9 ⟨rfl, hB9⟩
            try dsimp only
            refine hK _ _ (fun _ h => hSb _ _ h hB9) ?_
            have hS9 := hSi _ (hSb _ _ hS hB9)
            clear hK K
            try simp only [Act.put, List.setIfInBounds_toArray, List.set_cons_zero, List.set_cons_succ]
            refine wpAnyT_takeY (i := 23) (v := ?v23_22) rfl (by kernel_rfl) (by kernel_rfl) (by kernel_rfl) (fun _ _ _ h => h) (by rfl) ?hy23_22 ?r23_22
            case hy23_22 => (intro w; go_simp; try (with_reducible rfl))
            case r23_22 =>
            try simp only [Act.put, List.setIfInBounds_toArray, List.set_cons_zero, List.set_cons_succ]
            refine wpAnyT_takeY (i := 24) (v := ?v24_23) rfl (by kernel_rfl) (by kernel_rfl) (by kernel_rfl) (fun _ _ _ h => h) (by rfl) ?hy24_23 ?r24_23
            case hy24_23 => (intro w; go_simp; try (with_reducible rfl))
            case r24_23 =>
            try simp only [Act.put, List.setIfInBounds_toArray, List.set_cons_zero, List.set_cons_succ]
            refine wpAnyT_takeY (i := 25) (v := ?v25_24) rfl (by kernel_rfl) (by kernel_rfl) (by kernel_rfl) (fun _ _ _ h => h) (by rfl) ?hy25_24 ?r25_24
            case hy25_24 => (intro w; go_simp; try (with_reducible rfl))
            case r25_24 =>
            try simp only [Act.put, List.setIfInBounds_toArray, List.set_cons_zero, List.set_cons_succ]
            have hff9 := (hS9.frozen (p := ⟨W0.heap.size, s, none⟩) hglt).trans mf0
            have hea9 := bcellS hS9 z5
            refine wpAnyT_one (i := 26) rfl (by kernel_rfl) (by rfl) (fun K hK => ?_)
            go_simp
            refine hK _ _ (no_need (by kernel_rfl)) ?_
            clear hK K
            try simp only [Act.put, List.setIfInBounds_toArray, List.set_cons_zero, List.set_cons_succ]
            refine wpAnyT_done (by kernel_rfl) ?_ _
            refine NoPanic.normal ?_
            rw [HNV.out, hadd2]
            have hO10 := HSV.out w9 hS9
            have hK10 := (HKF.out.trans (.of_below hS9)).setCell ⟨W0.heap.size, s, none⟩ rfl (.int .i64 nv)
            obtain ⟨W10, hW10⟩ : ∃ y, y = w9.setCell ⟨W0.heap.size, s, none⟩ (.int .i64 nv) := ⟨_, rfl⟩
            rw [← hW10] at hO10 hK10 ⊢
            have hxs : (AA ++ nv :: List.replicate (d.next.length - (s + 1)) (0 : Int))[s]? = some nv := by
              rw [List.getElem?_append_right (by rw [HAL.out]; exact Nat.le_refl _), HAL.out, Nat.sub_self]; rfl
            have hAB : (AA ++ nv :: List.replicate (d.next.length - (s + 1)) (0 : Int)).length = d.next.length := by simp [HAL.out]; omega
            obtain ⟨y5, yf, ygl, _, _, _⟩ := hO10.at1 hxs
            have yf0 := yf s
            have hO11 := hO10.set (enc := Value.int .i64) (i := s) (x := 1099511627776) (by rw [hAB]; exact hls) (by constructor <;> omega)
            rw [HMS.out] at hO11
            have HO10 := Lib.hid hO10
            have HO11 := Lib.hid hO11
            have HK10 := Lib.hid hK10
            clear hO10 hO11 hK10 hxs hAB yf hS hSi hSb hS9 hff9 hea9 hcl hadd2 hmul2 hW10 z10 z20 z22 z17 z5 z7 z14
            by_cases hbig : nv > 1099511627776
            · have HX := Lib.hid hbig
              have hbig' : (1099511627776 : Int) < nv := hbig
              clear hbig
              go_wp2
              go_roundg (gk - 1)
              case measure => have := HG4.out; omega
              case rel =>
                refine ⟨k + 1, by go_num, by omega, by have := HG4.out; omega, ?_, HK10.out.setCell ⟨W0.heap.size, s, none⟩ rfl _⟩
                have h1 : min nv 1099511627776 = 1099511627776 := by have := HX.out; omega
                rw [HSUC.out, h1]
                exact HO11.out
            · have HX := Lib.hid hbig
              have hbig' : ¬ (1099511627776 : Int) < nv := hbig
              clear hbig
              go_wp2
              go_roundg (gk - 1)
              case measure => have := HG4.out; omega
              case rel =>
                refine ⟨k + 1, by go_num, by omega, by have := HG4.out; omega, ?_, HK10.out⟩
                have h1 : min nv 1099511627776 = nv := by have := HX.out; omega
                rw [HSUC.out, h1]
                exact HO10.out
          · obtain rfl : k = d.cls.length := by omega
            have hge : ¬ ((d.cls.length : Int) < d.cls.length) := by omega
            have hO' := hO
            rw [← HROW.out.1, HFN.out] at hO'
            have HOF := Lib.hid hO'
            have HKF := Lib.hid hK
            clear hO hO' hK hBwr hq0
            go_wp2
            go_roundg (gc - 1)
            case measure => have := HG3.out; omega
            case rel => exact ⟨s + 1, by go_num, by omega, by have := HG3.out; omega, HOF.out, HKF.out⟩
      · obtain rfl : s = d.next.length := by omega
        have hge : ¬ ((d.next.length : Int) < d.next.length) := by omega
        rw [List.take_length, Nat.sub_self, List.replicate_zero, List.append_nil] at hO
        have hO' : OwnS Kint 3 wr W0.heap.size (fun b => b = W0.heap.size) (.slice (some ⟨W0.heap.size, 0, none⟩) d.next.length d.next.length) (cntAll d (n + 1)) := hO
        have HOF := Lib.hid hO'
        clear hO hO' hK
        go_wp2
        go_ret
        exact ⟨W0.heap.size, rfl, (HOF.out.lower (by omega)).mono fun b hb => by omega, hBwr⟩
end Go.Proofs
