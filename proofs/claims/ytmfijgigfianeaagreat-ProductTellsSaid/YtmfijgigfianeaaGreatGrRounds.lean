/- rounds: the walk. -/
import Derived.Test.YtmfijgigfianeaaGreatGrMk
import Derived.Deep.DeepCutAuto
set_option linter.unusedVariables false
set_option linter.unusedSimpArgs false
namespace Go.Proofs
open Go.RowKit Go.Shelf Rp Go.Maps
attribute [local go_sem] Oper.semAt_some
set_option maxRecDepth 100000 in
set_option maxHeartbeats 6400000 in
theorem c_rounds (n : Nat) (w : World) (hn0 : 1 ≤ n) (hn1 : n ≤ 1000) :
    Calls Tryz.prog 12 #[.int .i64 (n : Int)] w fun e w' => ∃ h', e = .returned (dfaV h' (rdD n)) ∧ DfaO w' w.heap.size h' (rdD n) ∧ Below w.heap.size w w' := by
  have hot := fun W' => c_others [97] W' (by decide)
  have hlt := fun W' => c_letter [97] W' (by decide)
  go_enter Tryz.func12, Tryz.ntmps12
  go_upto_region 1 with (fail)
  refine wp_name fun W0 hW0 => ?_
  have q0 : W0.heap[w.heap.size]? = some (.cells #[.slice none 0 0, .slice none 0 0, .slice none 0 0] 25 (0, 0)) := by rw [← hW0]; exact World.alloc_heap_new w _
  have hB0 : Below w.heap.size w W0 := by rw [← hW0]; exact (Below.refl _ _).alloc (Nat.le_refl _) _
  have hz0 : w.heap.size < W0.heap.size := by rw [← hW0]; simp
  clear hW0
  go_upto_region 2 with (first
    | (go_at_call 10; refine (hot W0).mono ?_; rintro e w1 ⟨rfl, hB1⟩)
    | (go_at_call 11; refine (hlt w1).mono ?_; rintro e w2 ⟨rfl, hB2⟩))
  refine wp_name fun W3 hW3 => ?_
  have hs1 := hB1.size
  have hs2 := hB2.size
  have hB02 := hB1.trans (hB2.mono hB1.size)
  have hB2 : Below w.heap.size w w2 := hB0.trans (hB02.mono hB0.size)
  have hwz : w.heap.size < w2.heap.size := by omega
  have hC : OwnS Kset 33 W3 w.heap.size (fun k => w2.heap.size ≤ k ∧ k < w2.heap.size + 1) (.slice (some ⟨w2.heap.size, 0, none⟩) 2 2) [~~~ letS [97], letS [97]] := by
    rw [← hW3]
    exact (lit_two_sets w2 33 (~~~ letS [97]) (letS [97]) w.heap.size _ hB2.size ⟨Nat.le_refl _, by omega⟩).step fun b _ hl => Below.heap_alloc _ _ b hl
  have qb : W3.heap[w2.heap.size + 1]? = some (.cells #[.slice (some ⟨w2.heap.size, 0, none⟩) 2 2, .slice none 0 0, .slice none 0 0] 25 (0, 0)) := by
    rw [← hW3]
    have := World.alloc_heap_new (w2.alloc (.cells #[u64 (wd (~~~ letS [97]) 0), u64 (wd (~~~ letS [97]) 1), u64 (wd (~~~ letS [97]) 2), u64 (wd (~~~ letS [97]) 3), u64 (wd (letS [97]) 0), u64 (wd (letS [97]) 1), u64 (wd (letS [97]) 2), u64 (wd (letS [97]) 3)] 33)) (.cells #[.slice (some ⟨w2.heap.size, 0, none⟩) 2 2, .slice none 0 0, .slice none 0 0] 25)
    rwa [World.size_alloc] at this
  have hB3 : Below w2.heap.size w2 W3 := by rw [← hW3]; exact ((Below.refl _ _).alloc (Nat.le_refl _) _).alloc (by simp) _
  have hz3 : w2.heap.size + 1 < W3.heap.size := by rw [← hW3]; simp
  clear hW3
  have hBw3 := hB2.trans (hB3.mono hB2.size)
  have q3 := hB02.trans (hB3.mono hB02.size)
  have hq3 : W3.heap[w.heap.size]? = some (.cells #[.slice none 0 0, .slice none 0 0, .slice none 0 0] 25 (0, 0)) := (q3.block _ hz0).trans q0
  obtain ⟨W5, rfl⟩ : ∃ x : World, x = W3 := ⟨_, rfl⟩
  have HC := Lib.hid hC
  have HBw := Lib.hid hBw3
  have HQ := Lib.hid hq3
  clear hC hBw3 hq3 q3 hB0 hB1 hB3 hB02 hB2 q0 hz0 hot hlt
  obtain ⟨bo, hbo⟩ : ∃ x, x = w2.heap.size + 1 := ⟨_, rfl⟩
  have hbw : w.heap.size < bo := by omega
  rw [← hbo] at qb hz3 HC
  have hR0 : RdS 25 36 bo (.slice (some ⟨w2.heap.size, 0, none⟩) 2 2) W5 (rdN n 0) (List.replicate 0 []) (.slice none 0 0) (.slice none 0 0) W5 :=
    ⟨Kp.refl _ _, OwnS.nil _ _ _ _ _, OwnS.nil _ _ _ _ _, qb, hz3⟩
  obtain ⟨vC, hvC⟩ : ∃ x, x = Value.slice (some ⟨w2.heap.size, 0, none⟩) 2 2 := ⟨_, rfl⟩
  rw [← hvC] at hR0 qb
  have HVC := Lib.hid hvC
  go_upto_region 3 with (fail)
  rw [← hbo]
  clear hvC hbo qb
  have hn0x : ¬ (n : Int) = 0 := by omega
  have hn0n : ¬ n = 0 := by omega
  go_loopg [10] (n + 1) (fun gk vk wr => ∃ (k : Nat) (vN vM : Value), vk = .int .i64 (k : Int) ∧ k ≤ n ∧ gk + k = n + 1 ∧ RdS 25 36 bo vC W5 (rdN n k) (List.replicate k []) vN vM wr)
  case atStart => exact ⟨0, _, _, rfl, by omega, by omega, hR0⟩
  case round =>
    obtain ⟨k, vN, vM, rfl, hk, hgk, hR⟩ := hrel
    have HG := Lib.hid hgk
    have hk0 : (0 : Int) ≤ k := by omega
    obtain ⟨AN, cN, rfl, -, -, -⟩ := hR.on.reads
    obtain ⟨AM, cM, rfl, -, -, -⟩ := hR.om.reads
    clear hgk hR0
    by_cases hlt : k < n
    · have hlt' : (k : Int) < n := by omega
      have HNX := Lib.hid (rdN_succ n k).symm
      have HMK := Lib.hid (show List.replicate k ([] : List Int) ++ [[]] = List.replicate (k + 1) [] by rw [List.replicate_succ'])
      have hlN : (rdN n k).length ≤ 1000 := by simp [rdN]; omega
      have hlM : (List.replicate k ([] : List Int)).length ≤ 1000 := by simp; omega
      generalize rdN n k = nx at *
      generalize List.replicate k ([] : List Int) = mk at *
      have hfN : ∀ j, (Value.slice AN nx.length cN).ownBlock = some j → j < wr.heap.size := fun j hj => (hR.on.lt j hj).2
      have hfM : ∀ j, (Value.slice AM mk.length cM).ownBlock = some j → j < wr.heap.size := fun j hj => (hR.om.lt j hj).2
      have hkz := hR.kp.size
      obtain ⟨SS, hSi, hSo⟩ := one_row bo (.cells #[vC, .slice AN nx.length cN, .slice AM mk.length cM] 25 (0, 0))
      have hS : SS wr.drew := hSo _ hR.hb
      have HR := hR.ext (w1 := wr.drew) (Below.refl _ _).drew
      obtain ⟨r2, hr2, hr2l⟩ : ∃ r : Nat, (k + 1) % n = r ∧ r < n := ⟨_, rfl, Nat.mod_lt _ (by omega)⟩
      rw [hr2] at HNX
      have he2 : ((k : Int) + 1).tmod n = ((r2 : Nat) : Int) := by
        rw [Int.tmod_eq_emod_of_nonneg (by omega), ← hr2]; simp
      obtain ⟨e2, hee⟩ : ∃ e2 : Int, ((r2 : Nat) : Int) = e2 := ⟨_, rfl⟩
      rw [hee] at HNX he2
      have hlit : ∀ x ∈ [(n : Int), e2], inI64 x := fun x hx => by
        rcases List.mem_cons.1 hx with rfl | hx
        · constructor <;> omega
        · obtain rfl : x = e2 := by simpa using hx
          constructor <;> omega
      have hwk : IntKind.i64.wrap ((k : Int) + 1) = k + 1 := by rw [IntKind.wrap_i64]; omega
      clear hee hr2 hr2l
      go_upto_region 5 with (fail)
      refine wp_region_noPanic (wp_region_T SS [1, 11] (by kernel_rfl) ?_)
      obtain ⟨z0, hz0⟩ : ∃ z, z = wr.heap.size := ⟨_, rfl⟩
      rw [← hz0] at hfN hfM hkz
      have hz00 : z0 ≤ wr.drew.heap.size := by rw [hz0]; exact Nat.le_refl _
      clear hz0
      generalize wr.drew = y0 at *
      refine wpAnyT_takeY (i := 0) (v := ?v0_1) rfl (by kernel_rfl) (by kernel_rfl) (by kernel_rfl) (fun _ _ _ h => h) (by rfl) ?hy0_1 ?r0_1
      case hy0_1 => (intro w; go_simp; try (with_reducible rfl))
      case r0_1 =>
      try simp only [Act.put, List.setIfInBounds_toArray, List.set_cons_zero, List.set_cons_succ]
      refine wpAnyT_takeY (i := 2) (v := ?v2_2) rfl (by kernel_rfl) (by kernel_rfl) (by kernel_rfl) (fun _ _ _ h => h) (by rfl) ?hy2_2 ?r2_2
      case hy2_2 => (intro w; go_simp; try (with_reducible rfl))
      case r2_2 =>
      try simp only [Act.put, List.setIfInBounds_toArray, List.set_cons_zero, List.set_cons_succ]
      refine wpAnyT_takeY (i := 3) (v := ?v3_3) rfl (by kernel_rfl) (by kernel_rfl) (by kernel_rfl) (fun _ _ _ h => h) (by rfl) ?hy3_3 ?r3_3
      case hy3_3 => (intro w; go_simp; try (with_reducible rfl))
      case r3_3 =>
      try simp only [Act.put, List.setIfInBounds_toArray, List.set_cons_zero, List.set_cons_succ]
      refine wpAnyT_takeY (i := 4) (v := ?v4_4) rfl (by kernel_rfl) (by kernel_rfl) (by kernel_rfl) (fun _ _ _ h => h) (by rfl) ?hy4_4 ?r4_4
      case hy4_4 => (intro w; go_simp; try (with_reducible rfl))
      case r4_4 =>
      try simp only [Act.put, List.setIfInBounds_toArray, List.set_cons_zero, List.set_cons_succ]
      refine wpAnyT_takeY (i := 5) (v := ?v5_5) rfl (by kernel_rfl) (by kernel_rfl) (by kernel_rfl) (fun _ _ _ h => h) (by rfl) ?hy5_5 ?r5_5
      case hy5_5 => (intro w; go_simp; try (with_reducible rfl))
      case r5_5 =>
      try simp only [Act.put, List.setIfInBounds_toArray, List.set_cons_zero, List.set_cons_succ]
      refine wpAnyT_takeY (i := 6) (v := ?v6_6) rfl (by kernel_rfl) (by kernel_rfl) (by kernel_rfl) (fun _ _ _ h => h) (by rfl) ?hy6_6 ?r6_6
      case hy6_6 => (intro w; go_simp; try (with_reducible rfl))
      case r6_6 =>
      try simp only [Act.put, List.setIfInBounds_toArray, List.set_cons_zero, List.set_cons_succ]
      refine wpAnyT_takeY (i := 10) (v := ?v10_7) rfl (by kernel_rfl) (by kernel_rfl) (by kernel_rfl) (fun _ _ _ h => h) (by rfl) ?hy10_7 ?r10_7
      case hy10_7 => (intro w; go_simp; try (with_reducible rfl))
      case r10_7 =>
      try simp only [Act.put, List.setIfInBounds_toArray, List.set_cons_zero, List.set_cons_succ]
      refine wpAnyT_take (i := 1) (v := ?v1_8) rfl rfl (by kernel_rfl) (by kernel_rfl) (by kernel_rfl) (fun _ _ _ h => h) (by rfl) hS ?hy1_8 ?r1_8
      case hy1_8 => (intro w hSw; obtain ⟨f0, f1, f2⟩ := cells3 (hSi _ hSw); (try dsimp only at hSw); go_simp; try (with_reducible rfl))
      case r1_8 =>
      try simp only [Act.put, List.setIfInBounds_toArray, List.set_cons_zero, List.set_cons_succ]
      refine wpAnyT_take (i := 11) (v := ?v11_9) rfl rfl (by kernel_rfl) (by kernel_rfl) (by kernel_rfl) (fun _ _ _ h => h) (by rfl) hS ?hy11_9 ?r11_9
      case hy11_9 => (intro w hSw; obtain ⟨f0, f1, f2⟩ := cells3 (hSi _ hSw); (try dsimp only at hSw); go_simp; try (with_reducible rfl))
      case r11_9 =>
      try simp only [Act.put, List.setIfInBounds_toArray, List.set_cons_zero, List.set_cons_succ]
      clear hSi hS hR
      refine wpAnyT_two (i := 7) (j := 12) rfl rfl (by kernel_rfl) (by rfl) (by rfl) (fun K hK => ?_) (fun K hK => ?_)
      · go_simp
        have hb : Below y0.heap.size y0 (y0.alloc (.cells #[.int .i64 (n : Int), .int .i64 e2] 3)) := (Below.refl _ _).alloc (Nat.le_refl _) _
        have s1 : y0.heap.size < (y0.alloc (.cells #[.int .i64 (n : Int), .int .i64 e2] 3)).heap.size := by simp
        have hi : KintF.R (y0.alloc (.cells #[.int .i64 (n : Int), .int .i64 e2] 3)) (fun k => z0 ≤ k) [(n : Int), e2] [.slice (some ⟨y0.heap.size, 0, none⟩) 2 2] := (lit_ints y0 3 [(n : Int), e2] z0 (fun k => z0 ≤ k) hlit (by simp) (by omega) (by omega)).sliceF
        have HR' := HR.ext hb
        refine hK _ _ (fun _ _ => hSo _ HR'.hb) ?_
        clear HR hb
        have HR := HR'
        clear HR'
        clear hK K
        try simp only [Act.put, List.setIfInBounds_toArray, List.set_cons_zero, List.set_cons_succ]
        generalize hy1 : y0.alloc (.cells #[.int .i64 (n : Int), .int .i64 e2] 3) = y1 at *
        clear hy1
        refine wpAnyT_two (i := 8) (j := 12) rfl rfl (by kernel_rfl) (by rfl) (by rfl) (fun K hK => ?_) (fun K hK => ?_)
        · go_simp
          have hb : Below y1.heap.size y1 (y1.alloc (.cells #[.slice (some ⟨y0.heap.size, 0, none⟩) 2 2] 36)) := (Below.refl _ _).alloc (Nat.le_refl _) _
          have s2 : y1.heap.size < (y1.alloc (.cells #[.slice (some ⟨y0.heap.size, 0, none⟩) 2 2] 36)).heap.size := by simp
          have hn := box_S KintF y1 36 [.slice (some ⟨y0.heap.size, 0, none⟩) 2 2] [(n : Int), e2] (fun k => z0 ≤ k) (KintF.step hi fun b _ hl => Below.heap_alloc y1 _ b hl) (by omega)
          have HR' := HR.ext hb
          refine hK _ _ (fun _ _ => hSo _ HR'.hb) ?_
          clear HR hb
          have HR := HR'
          clear HR'
          clear hK K
          try simp only [Act.put, List.setIfInBounds_toArray, List.set_cons_zero, List.set_cons_succ]
          generalize hy2 : y1.alloc (.cells #[.slice (some ⟨y0.heap.size, 0, none⟩) 2 2] 36) = y2 at *
          clear hy2
          refine wpAnyT_two (i := 9) (j := 12) rfl rfl (by kernel_rfl) (by rfl) (by rfl) (fun K hK => ?_) (fun K hK => ?_)
          · refine wp_own_appendS KintF y2 W5.heap.size _ _ 23 36 (.slice none 0 0) 24 rfl Tryz.underlying23 info_ints rfl (by decide) (by decide) (.slice AN nx.length cN) nx [[(n : Int), e2]] (some ⟨y1.heap.size, 0, none⟩) 1 (fun k => W5.heap.size ≤ k ∧ some k ≠ (Value.slice AM mk.length cM).ownBlock) (fun k => z0 ≤ k) rfl rfl hn (fun q c h => KintF.mono (fun b hb => ?cb) h) HR.on (fun k hk => ⟨by omega, fun e => by have := hfM k e.symm; omega⟩) HR.kp.size (by simp; omega) ?_
            case cb =>
              exact ⟨⟨by omega, fun e => by have := hfM b e.symm; omega⟩, fun e => by have := hfN b e.symm; omega⟩
            intro vN' y3 hO hM hv
            obtain ⟨gN, cN', rfl⟩ := hv (by simp)
            have s3 := hM.size
            have hgN : gN < z0 ∨ y2.heap.size ≤ gN := by
              rcases hM.at_ with e | ⟨g, e, hg⟩
              · exact .inl (hfN gN e.symm)
              · have e' : some gN = some g := e
                injection e' with e'; omega
            have hgl := (hO.lt gN rfl).2
            have HH := HR.appN hO hM
            refine hK _ _ (fun _ _ => hSo _ HH.hb) ?_
            clear HR hO hM hv hn hi
            have HR := HH
            clear HH
            try simp only [List.length_append, List.length_cons, List.length_nil] at HR
            clear hK K
            try simp only [Act.put, List.setIfInBounds_toArray, List.set_cons_zero, List.set_cons_succ]
            refine wpAnyT_takeY (i := 14) (v := ?v14_10) rfl (by kernel_rfl) (by kernel_rfl) (by kernel_rfl) (fun _ _ _ h => h) (by rfl) ?hy14_10 ?r14_10
            case hy14_10 => (intro w; go_simp; try (with_reducible rfl))
            case r14_10 =>
            try simp only [Act.put, List.setIfInBounds_toArray, List.set_cons_zero, List.set_cons_succ]
            refine wpAnyT_one (i := 12) rfl (by kernel_rfl) (by rfl) (fun K hK => ?_)
            go_simp
            have hb : Below y3.heap.size y3 (y3.alloc (.cells #[.slice none 0 0] 36)) := (Below.refl _ _).alloc (Nat.le_refl _) _
            have s4 : y3.heap.size < (y3.alloc (.cells #[.slice none 0 0] 36)).heap.size := by simp
            have hm := box_S KintF y3 36 [.slice none 0 0] ([] : List Int) (fun k => z0 ≤ k) KintF_nil (by omega)
            have HR' := HR.ext hb
            refine hK _ _ (fun _ _ => hSo _ HR'.hb) ?_
            clear HR hb
            have HR := HR'
            clear HR'
            clear hK K
            try simp only [Act.put, List.setIfInBounds_toArray, List.set_cons_zero, List.set_cons_succ]
            generalize hy4 : y3.alloc (.cells #[.slice none 0 0] 36) = y4 at *
            clear hy4
            refine wpAnyT_one (i := 13) rfl (by kernel_rfl) (by rfl) (fun K hK => ?_)
            refine wp_own_appendS KintF y4 W5.heap.size _ _ 23 36 (.slice none 0 0) 24 rfl Tryz.underlying23 info_ints rfl (by decide) (by decide) (.slice AM mk.length cM) mk [[]] (some ⟨y3.heap.size, 0, none⟩) 1 (fun k => W5.heap.size ≤ k ∧ some k ≠ (Value.slice (some ⟨gN, 0, none⟩) (nx.length + 1) cN').ownBlock) (fun k => z0 ≤ k ∧ some k ≠ (Value.slice (some ⟨gN, 0, none⟩) (nx.length + 1) cN').ownBlock) rfl rfl (S_nilrow hm ?hne) (fun q c h => KintF.mono (fun b hb => ?cb) h) HR.om (fun k hk => ⟨?ck1, ?ck2⟩) HR.kp.size (by simp; omega) ?_
            case hne => exact fun e => by have e' : y3.heap.size = gN := Option.some.inj e; omega
            case cb => exact ⟨⟨by have := hb.1; omega, hb.2⟩, fun e => by have := hfM b e.symm; have := hb.1; omega⟩
            case ck1 => omega
            case ck2 => exact fun e => by have := (HR.on.lt k e.symm).2; omega
            intro vM' y5 hO hM hv
            obtain ⟨gM, cM', rfl⟩ := hv (by simp)
            have hcz := HR.cells hM
            have HF := HR.appM hO hM
            refine hK _ _ (fun _ _ => hSo _ hcz) ?_
            try simp only [List.length_append, List.length_cons, List.length_nil] at HF
            obtain ⟨d0, d1, d2⟩ := cells3 hcz
            have df : ∀ j, y5.frozen? ⟨bo, j, none⟩ = false := fun j => frozen_of_row _ _ j _ _ hcz
            clear HR hO hM hv hcz hm
            clear hK K
            try simp only [Act.put, List.setIfInBounds_toArray, List.set_cons_zero, List.set_cons_succ]
            refine wpAnyT_one (i := 15) rfl (by kernel_rfl) (by rfl) (fun K hK => ?_)
            go_simp
            refine hK _ _ (no_need (by kernel_rfl)) ?_
            clear hK K
            try simp only [Act.put, List.setIfInBounds_toArray, List.set_cons_zero, List.set_cons_succ]
            refine wpAnyT_takeY (i := 16) (v := ?v16_11) rfl (by kernel_rfl) (by kernel_rfl) (by kernel_rfl) (fun _ _ _ h => h) (by rfl) ?hy16_11 ?r16_11
            case hy16_11 => (intro w; go_simp; try (with_reducible rfl))
            case r16_11 =>
            try simp only [Act.put, List.setIfInBounds_toArray, List.set_cons_zero, List.set_cons_succ]
            refine wpAnyT_one (i := 17) rfl (by kernel_rfl) (by rfl) (fun K hK => ?_)
            go_simp
            refine hK _ _ (no_need (by kernel_rfl)) ?_
            clear hK K
            try simp only [Act.put, List.setIfInBounds_toArray, List.set_cons_zero, List.set_cons_succ]
            refine wpAnyT_done (by kernel_rfl) ?_ _
            refine NoPanic.normal ?_
            clear d0 d1 d2 df
            go_wp2
            go_roundg (gk - 1)
            case measure => have := HG.out; omega
            case rel =>
              rw [HNX.out, HMK.out] at HF
              exact ⟨k + 1, _, _, by go_num, by omega, by have := HG.out; omega, HF⟩
          · go_simp
            have hb : Below y2.heap.size y2 (y2.alloc (.cells #[.slice none 0 0] 36)) := (Below.refl _ _).alloc (Nat.le_refl _) _
            have s6 : y2.heap.size < (y2.alloc (.cells #[.slice none 0 0] 36)).heap.size := by simp
            have hm := box_S KintF y2 36 [.slice none 0 0] ([] : List Int) (fun k => z0 ≤ k) KintF_nil (by omega)
            have HR' := HR.ext hb
            have hn := S_below hn hb
            refine hK _ _ (fun _ _ => hSo _ HR'.hb) ?_
            clear HR hb
            have HR := HR'
            clear HR'
            clear hK K
            try simp only [Act.put, List.setIfInBounds_toArray, List.set_cons_zero, List.set_cons_succ]
            generalize hy6 : y2.alloc (.cells #[.slice none 0 0] 36) = y6 at *
            clear hy6
            refine wpAnyT_one (i := 9) rfl (by kernel_rfl) (by rfl) (fun K hK => ?_)
            refine wp_own_appendS KintF y6 W5.heap.size _ _ 23 36 (.slice none 0 0) 24 rfl Tryz.underlying23 info_ints rfl (by decide) (by decide) (.slice AN nx.length cN) nx [[(n : Int), e2]] (some ⟨y1.heap.size, 0, none⟩) 1 (fun k => W5.heap.size ≤ k ∧ some k ≠ (Value.slice AM mk.length cM).ownBlock) (fun k => z0 ≤ k) rfl rfl hn (fun q c h => KintF.mono (fun b hb => ?cb) h) HR.on (fun k hk => ⟨by omega, fun e => by have := hfM k e.symm; omega⟩) HR.kp.size (by simp; omega) ?_
            case cb =>
              exact ⟨⟨by omega, fun e => by have := hfM b e.symm; omega⟩, fun e => by have := hfN b e.symm; omega⟩
            intro vN' y7 hO hM hv
            obtain ⟨gN, cN', rfl⟩ := hv (by simp)
            have s7 := hM.size
            have hgN : gN < z0 ∨ y6.heap.size ≤ gN := by
              rcases hM.at_ with e | ⟨g, e, hg⟩
              · exact .inl (hfN gN e.symm)
              · have e' : some gN = some g := e
                injection e' with e'; omega
            have hgl := (hO.lt gN rfl).2
            have HH := HR.appN hO hM
            have hm := hm.step (w1 := y7) fun b hb hl => hM.block b hl fun e => by have := hfN b e.symm; have hb' : z0 ≤ b := hb; omega
            refine hK _ _ (fun _ _ => hSo _ HH.hb) ?_
            clear HR hO hM hv hn hi
            have HR := HH
            clear HH
            try simp only [List.length_append, List.length_cons, List.length_nil] at HR
            clear hK K
            try simp only [Act.put, List.setIfInBounds_toArray, List.set_cons_zero, List.set_cons_succ]
            refine wpAnyT_takeY (i := 14) (v := ?v14_12) rfl (by kernel_rfl) (by kernel_rfl) (by kernel_rfl) (fun _ _ _ h => h) (by rfl) ?hy14_12 ?r14_12
            case hy14_12 => (intro w; go_simp; try (with_reducible rfl))
            case r14_12 =>
            try simp only [Act.put, List.setIfInBounds_toArray, List.set_cons_zero, List.set_cons_succ]
            refine wpAnyT_one (i := 13) rfl (by kernel_rfl) (by rfl) (fun K hK => ?_)
            refine wp_own_appendS KintF y7 W5.heap.size _ _ 23 36 (.slice none 0 0) 24 rfl Tryz.underlying23 info_ints rfl (by decide) (by decide) (.slice AM mk.length cM) mk [[]] (some ⟨y2.heap.size, 0, none⟩) 1 (fun k => W5.heap.size ≤ k ∧ some k ≠ (Value.slice (some ⟨gN, 0, none⟩) (nx.length + 1) cN').ownBlock) (fun k => z0 ≤ k ∧ some k ≠ (Value.slice (some ⟨gN, 0, none⟩) (nx.length + 1) cN').ownBlock) rfl rfl (S_nilrow hm ?hne) (fun q c h => KintF.mono (fun b hb => ?cb) h) HR.om (fun k hk => ⟨?ck1, ?ck2⟩) HR.kp.size (by simp; omega) ?_
            case hne => exact fun e => by have e' : y2.heap.size = gN := Option.some.inj e; omega
            case cb => exact ⟨⟨by have := hb.1; omega, hb.2⟩, fun e => by have := hfM b e.symm; have := hb.1; omega⟩
            case ck1 => omega
            case ck2 => exact fun e => by have := (HR.on.lt k e.symm).2; omega
            intro vM' y8 hO hM hv
            obtain ⟨gM, cM', rfl⟩ := hv (by simp)
            have hcz := HR.cells hM
            have HF := HR.appM hO hM
            refine hK _ _ (fun _ _ => hSo _ hcz) ?_
            try simp only [List.length_append, List.length_cons, List.length_nil] at HF
            obtain ⟨d0, d1, d2⟩ := cells3 hcz
            have df : ∀ j, y8.frozen? ⟨bo, j, none⟩ = false := fun j => frozen_of_row _ _ j _ _ hcz
            clear HR hO hM hv hcz hm
            clear hK K
            try simp only [Act.put, List.setIfInBounds_toArray, List.set_cons_zero, List.set_cons_succ]
            refine wpAnyT_one (i := 15) rfl (by kernel_rfl) (by rfl) (fun K hK => ?_)
            go_simp
            refine hK _ _ (no_need (by kernel_rfl)) ?_
            clear hK K
            try simp only [Act.put, List.setIfInBounds_toArray, List.set_cons_zero, List.set_cons_succ]
            refine wpAnyT_takeY (i := 16) (v := ?v16_13) rfl (by kernel_rfl) (by kernel_rfl) (by kernel_rfl) (fun _ _ _ h => h) (by rfl) ?hy16_13 ?r16_13
            case hy16_13 => (intro w; go_simp; try (with_reducible rfl))
            case r16_13 =>
            try simp only [Act.put, List.setIfInBounds_toArray, List.set_cons_zero, List.set_cons_succ]
            refine wpAnyT_one (i := 17) rfl (by kernel_rfl) (by rfl) (fun K hK => ?_)
            go_simp
            refine hK _ _ (no_need (by kernel_rfl)) ?_
            clear hK K
            try simp only [Act.put, List.setIfInBounds_toArray, List.set_cons_zero, List.set_cons_succ]
            refine wpAnyT_done (by kernel_rfl) ?_ _
            refine NoPanic.normal ?_
            clear d0 d1 d2 df
            go_wp2
            go_roundg (gk - 1)
            case measure => have := HG.out; omega
            case rel =>
              rw [HNX.out, HMK.out] at HF
              exact ⟨k + 1, _, _, by go_num, by omega, by have := HG.out; omega, HF⟩
        · go_simp
          have hb : Below y1.heap.size y1 (y1.alloc (.cells #[.slice none 0 0] 36)) := (Below.refl _ _).alloc (Nat.le_refl _) _
          have s9 : y1.heap.size < (y1.alloc (.cells #[.slice none 0 0] 36)).heap.size := by simp
          have hm := box_S KintF y1 36 [.slice none 0 0] ([] : List Int) (fun k => z0 ≤ k) KintF_nil (by omega)
          have HR' := HR.ext hb
          have hi := KintF.below hi hb
          refine hK _ _ (fun _ _ => hSo _ HR'.hb) ?_
          clear HR hb
          have HR := HR'
          clear HR'
          clear hK K
          try simp only [Act.put, List.setIfInBounds_toArray, List.set_cons_zero, List.set_cons_succ]
          generalize hy9 : y1.alloc (.cells #[.slice none 0 0] 36) = y9 at *
          clear hy9
          refine wpAnyT_one (i := 8) rfl (by kernel_rfl) (by rfl) (fun K hK => ?_)
          go_simp
          have hb : Below y9.heap.size y9 (y9.alloc (.cells #[.slice (some ⟨y0.heap.size, 0, none⟩) 2 2] 36)) := (Below.refl _ _).alloc (Nat.le_refl _) _
          have s10 : y9.heap.size < (y9.alloc (.cells #[.slice (some ⟨y0.heap.size, 0, none⟩) 2 2] 36)).heap.size := by simp
          have hn := box_S KintF y9 36 [.slice (some ⟨y0.heap.size, 0, none⟩) 2 2] [(n : Int), e2] (fun k => z0 ≤ k) (KintF.step hi fun b _ hl => Below.heap_alloc y9 _ b hl) (by omega)
          have HR' := HR.ext hb
          have hm := S_below hm hb
          refine hK _ _ (fun _ _ => hSo _ HR'.hb) ?_
          clear HR hb
          have HR := HR'
          clear HR'
          clear hK K
          try simp only [Act.put, List.setIfInBounds_toArray, List.set_cons_zero, List.set_cons_succ]
          generalize hy10 : y9.alloc (.cells #[.slice (some ⟨y0.heap.size, 0, none⟩) 2 2] 36) = y10 at *
          clear hy10
          refine wpAnyT_one (i := 9) rfl (by kernel_rfl) (by rfl) (fun K hK => ?_)
          refine wp_own_appendS KintF y10 W5.heap.size _ _ 23 36 (.slice none 0 0) 24 rfl Tryz.underlying23 info_ints rfl (by decide) (by decide) (.slice AN nx.length cN) nx [[(n : Int), e2]] (some ⟨y9.heap.size, 0, none⟩) 1 (fun k => W5.heap.size ≤ k ∧ some k ≠ (Value.slice AM mk.length cM).ownBlock) (fun k => z0 ≤ k) rfl rfl hn (fun q c h => KintF.mono (fun b hb => ?cb) h) HR.on (fun k hk => ⟨by omega, fun e => by have := hfM k e.symm; omega⟩) HR.kp.size (by simp; omega) ?_
          case cb =>
            exact ⟨⟨by omega, fun e => by have := hfM b e.symm; omega⟩, fun e => by have := hfN b e.symm; omega⟩
          intro vN' y11 hO hM hv
          obtain ⟨gN, cN', rfl⟩ := hv (by simp)
          have s11 := hM.size
          have hgN : gN < z0 ∨ y10.heap.size ≤ gN := by
            rcases hM.at_ with e | ⟨g, e, hg⟩
            · exact .inl (hfN gN e.symm)
            · have e' : some gN = some g := e
              injection e' with e'; omega
          have hgl := (hO.lt gN rfl).2
          have HH := HR.appN hO hM
          have hm := hm.step (w1 := y11) fun b hb hl => hM.block b hl fun e => by have := hfN b e.symm; have hb' : z0 ≤ b := hb; omega
          refine hK _ _ (fun _ _ => hSo _ HH.hb) ?_
          clear HR hO hM hv hn hi
          have HR := HH
          clear HH
          try simp only [List.length_append, List.length_cons, List.length_nil] at HR
          clear hK K
          try simp only [Act.put, List.setIfInBounds_toArray, List.set_cons_zero, List.set_cons_succ]
          refine wpAnyT_takeY (i := 14) (v := ?v14_14) rfl (by kernel_rfl) (by kernel_rfl) (by kernel_rfl) (fun _ _ _ h => h) (by rfl) ?hy14_14 ?r14_14
          case hy14_14 => (intro w; go_simp; try (with_reducible rfl))
          case r14_14 =>
          try simp only [Act.put, List.setIfInBounds_toArray, List.set_cons_zero, List.set_cons_succ]
          refine wpAnyT_one (i := 13) rfl (by kernel_rfl) (by rfl) (fun K hK => ?_)
          refine wp_own_appendS KintF y11 W5.heap.size _ _ 23 36 (.slice none 0 0) 24 rfl Tryz.underlying23 info_ints rfl (by decide) (by decide) (.slice AM mk.length cM) mk [[]] (some ⟨y1.heap.size, 0, none⟩) 1 (fun k => W5.heap.size ≤ k ∧ some k ≠ (Value.slice (some ⟨gN, 0, none⟩) (nx.length + 1) cN').ownBlock) (fun k => z0 ≤ k ∧ some k ≠ (Value.slice (some ⟨gN, 0, none⟩) (nx.length + 1) cN').ownBlock) rfl rfl (S_nilrow hm ?hne) (fun q c h => KintF.mono (fun b hb => ?cb) h) HR.om (fun k hk => ⟨?ck1, ?ck2⟩) HR.kp.size (by simp; omega) ?_
          case hne => exact fun e => by have e' : y1.heap.size = gN := Option.some.inj e; omega
          case cb => exact ⟨⟨by have := hb.1; omega, hb.2⟩, fun e => by have := hfM b e.symm; have := hb.1; omega⟩
          case ck1 => omega
          case ck2 => exact fun e => by have := (HR.on.lt k e.symm).2; omega
          intro vM' y12 hO hM hv
          obtain ⟨gM, cM', rfl⟩ := hv (by simp)
          have hcz := HR.cells hM
          have HF := HR.appM hO hM
          refine hK _ _ (fun _ _ => hSo _ hcz) ?_
          try simp only [List.length_append, List.length_cons, List.length_nil] at HF
          obtain ⟨d0, d1, d2⟩ := cells3 hcz
          have df : ∀ j, y12.frozen? ⟨bo, j, none⟩ = false := fun j => frozen_of_row _ _ j _ _ hcz
          clear HR hO hM hv hcz hm
          clear hK K
          try simp only [Act.put, List.setIfInBounds_toArray, List.set_cons_zero, List.set_cons_succ]
          refine wpAnyT_one (i := 15) rfl (by kernel_rfl) (by rfl) (fun K hK => ?_)
          go_simp
          refine hK _ _ (no_need (by kernel_rfl)) ?_
          clear hK K
          try simp only [Act.put, List.setIfInBounds_toArray, List.set_cons_zero, List.set_cons_succ]
          refine wpAnyT_takeY (i := 16) (v := ?v16_15) rfl (by kernel_rfl) (by kernel_rfl) (by kernel_rfl) (fun _ _ _ h => h) (by rfl) ?hy16_15 ?r16_15
          case hy16_15 => (intro w; go_simp; try (with_reducible rfl))
          case r16_15 =>
          try simp only [Act.put, List.setIfInBounds_toArray, List.set_cons_zero, List.set_cons_succ]
          refine wpAnyT_one (i := 17) rfl (by kernel_rfl) (by rfl) (fun K hK => ?_)
          go_simp
          refine hK _ _ (no_need (by kernel_rfl)) ?_
          clear hK K
          try simp only [Act.put, List.setIfInBounds_toArray, List.set_cons_zero, List.set_cons_succ]
          refine wpAnyT_done (by kernel_rfl) ?_ _
          refine NoPanic.normal ?_
          clear d0 d1 d2 df
          go_wp2
          go_roundg (gk - 1)
          case measure => have := HG.out; omega
          case rel =>
            rw [HNX.out, HMK.out] at HF
            exact ⟨k + 1, _, _, by go_num, by omega, by have := HG.out; omega, HF⟩
      · go_simp
        have hb : Below y0.heap.size y0 (y0.alloc (.cells #[.slice none 0 0] 36)) := (Below.refl _ _).alloc (Nat.le_refl _) _
        have s13 : y0.heap.size < (y0.alloc (.cells #[.slice none 0 0] 36)).heap.size := by simp
        have hm := box_S KintF y0 36 [.slice none 0 0] ([] : List Int) (fun k => z0 ≤ k) KintF_nil (by omega)
        have HR' := HR.ext hb
        refine hK _ _ (fun _ _ => hSo _ HR'.hb) ?_
        clear HR hb
        have HR := HR'
        clear HR'
        clear hK K
        try simp only [Act.put, List.setIfInBounds_toArray, List.set_cons_zero, List.set_cons_succ]
        generalize hy13 : y0.alloc (.cells #[.slice none 0 0] 36) = y13 at *
        clear hy13
        refine wpAnyT_one (i := 7) rfl (by kernel_rfl) (by rfl) (fun K hK => ?_)
        go_simp
        have hb : Below y13.heap.size y13 (y13.alloc (.cells #[.int .i64 (n : Int), .int .i64 e2] 3)) := (Below.refl _ _).alloc (Nat.le_refl _) _
        have s14 : y13.heap.size < (y13.alloc (.cells #[.int .i64 (n : Int), .int .i64 e2] 3)).heap.size := by simp
        have hi : KintF.R (y13.alloc (.cells #[.int .i64 (n : Int), .int .i64 e2] 3)) (fun k => z0 ≤ k) [(n : Int), e2] [.slice (some ⟨y13.heap.size, 0, none⟩) 2 2] := (lit_ints y13 3 [(n : Int), e2] z0 (fun k => z0 ≤ k) hlit (by simp) (by omega) (by omega)).sliceF
        have HR' := HR.ext hb
        have hm := S_below hm hb
        refine hK _ _ (fun _ _ => hSo _ HR'.hb) ?_
        clear HR hb
        have HR := HR'
        clear HR'
        clear hK K
        try simp only [Act.put, List.setIfInBounds_toArray, List.set_cons_zero, List.set_cons_succ]
        generalize hy14 : y13.alloc (.cells #[.int .i64 (n : Int), .int .i64 e2] 3) = y14 at *
        clear hy14
        refine wpAnyT_one (i := 8) rfl (by kernel_rfl) (by rfl) (fun K hK => ?_)
        go_simp
        have hb : Below y14.heap.size y14 (y14.alloc (.cells #[.slice (some ⟨y13.heap.size, 0, none⟩) 2 2] 36)) := (Below.refl _ _).alloc (Nat.le_refl _) _
        have s15 : y14.heap.size < (y14.alloc (.cells #[.slice (some ⟨y13.heap.size, 0, none⟩) 2 2] 36)).heap.size := by simp
        have hn := box_S KintF y14 36 [.slice (some ⟨y13.heap.size, 0, none⟩) 2 2] [(n : Int), e2] (fun k => z0 ≤ k) (KintF.step hi fun b _ hl => Below.heap_alloc y14 _ b hl) (by omega)
        have HR' := HR.ext hb
        have hm := S_below hm hb
        refine hK _ _ (fun _ _ => hSo _ HR'.hb) ?_
        clear HR hb
        have HR := HR'
        clear HR'
        clear hK K
        try simp only [Act.put, List.setIfInBounds_toArray, List.set_cons_zero, List.set_cons_succ]
        generalize hy15 : y14.alloc (.cells #[.slice (some ⟨y13.heap.size, 0, none⟩) 2 2] 36) = y15 at *
        clear hy15
        refine wpAnyT_one (i := 9) rfl (by kernel_rfl) (by rfl) (fun K hK => ?_)
        refine wp_own_appendS KintF y15 W5.heap.size _ _ 23 36 (.slice none 0 0) 24 rfl Tryz.underlying23 info_ints rfl (by decide) (by decide) (.slice AN nx.length cN) nx [[(n : Int), e2]] (some ⟨y14.heap.size, 0, none⟩) 1 (fun k => W5.heap.size ≤ k ∧ some k ≠ (Value.slice AM mk.length cM).ownBlock) (fun k => z0 ≤ k) rfl rfl hn (fun q c h => KintF.mono (fun b hb => ?cb) h) HR.on (fun k hk => ⟨by omega, fun e => by have := hfM k e.symm; omega⟩) HR.kp.size (by simp; omega) ?_
        case cb =>
          exact ⟨⟨by omega, fun e => by have := hfM b e.symm; omega⟩, fun e => by have := hfN b e.symm; omega⟩
        intro vN' y16 hO hM hv
        obtain ⟨gN, cN', rfl⟩ := hv (by simp)
        have s16 := hM.size
        have hgN : gN < z0 ∨ y15.heap.size ≤ gN := by
          rcases hM.at_ with e | ⟨g, e, hg⟩
          · exact .inl (hfN gN e.symm)
          · have e' : some gN = some g := e
            injection e' with e'; omega
        have hgl := (hO.lt gN rfl).2
        have HH := HR.appN hO hM
        have hm := hm.step (w1 := y16) fun b hb hl => hM.block b hl fun e => by have := hfN b e.symm; have hb' : z0 ≤ b := hb; omega
        refine hK _ _ (fun _ _ => hSo _ HH.hb) ?_
        clear HR hO hM hv hn hi
        have HR := HH
        clear HH
        try simp only [List.length_append, List.length_cons, List.length_nil] at HR
        clear hK K
        try simp only [Act.put, List.setIfInBounds_toArray, List.set_cons_zero, List.set_cons_succ]
        refine wpAnyT_takeY (i := 14) (v := ?v14_16) rfl (by kernel_rfl) (by kernel_rfl) (by kernel_rfl) (fun _ _ _ h => h) (by rfl) ?hy14_16 ?r14_16
        case hy14_16 => (intro w; go_simp; try (with_reducible rfl))
        case r14_16 =>
        try simp only [Act.put, List.setIfInBounds_toArray, List.set_cons_zero, List.set_cons_succ]
        refine wpAnyT_one (i := 13) rfl (by kernel_rfl) (by rfl) (fun K hK => ?_)
        refine wp_own_appendS KintF y16 W5.heap.size _ _ 23 36 (.slice none 0 0) 24 rfl Tryz.underlying23 info_ints rfl (by decide) (by decide) (.slice AM mk.length cM) mk [[]] (some ⟨y0.heap.size, 0, none⟩) 1 (fun k => W5.heap.size ≤ k ∧ some k ≠ (Value.slice (some ⟨gN, 0, none⟩) (nx.length + 1) cN').ownBlock) (fun k => z0 ≤ k ∧ some k ≠ (Value.slice (some ⟨gN, 0, none⟩) (nx.length + 1) cN').ownBlock) rfl rfl (S_nilrow hm ?hne) (fun q c h => KintF.mono (fun b hb => ?cb) h) HR.om (fun k hk => ⟨?ck1, ?ck2⟩) HR.kp.size (by simp; omega) ?_
        case hne => exact fun e => by have e' : y0.heap.size = gN := Option.some.inj e; omega
        case cb => exact ⟨⟨by have := hb.1; omega, hb.2⟩, fun e => by have := hfM b e.symm; have := hb.1; omega⟩
        case ck1 => omega
        case ck2 => exact fun e => by have := (HR.on.lt k e.symm).2; omega
        intro vM' y17 hO hM hv
        obtain ⟨gM, cM', rfl⟩ := hv (by simp)
        have hcz := HR.cells hM
        have HF := HR.appM hO hM
        refine hK _ _ (fun _ _ => hSo _ hcz) ?_
        try simp only [List.length_append, List.length_cons, List.length_nil] at HF
        obtain ⟨d0, d1, d2⟩ := cells3 hcz
        have df : ∀ j, y17.frozen? ⟨bo, j, none⟩ = false := fun j => frozen_of_row _ _ j _ _ hcz
        clear HR hO hM hv hcz hm
        clear hK K
        try simp only [Act.put, List.setIfInBounds_toArray, List.set_cons_zero, List.set_cons_succ]
        refine wpAnyT_one (i := 15) rfl (by kernel_rfl) (by rfl) (fun K hK => ?_)
        go_simp
        refine hK _ _ (no_need (by kernel_rfl)) ?_
        clear hK K
        try simp only [Act.put, List.setIfInBounds_toArray, List.set_cons_zero, List.set_cons_succ]
        refine wpAnyT_takeY (i := 16) (v := ?v16_17) rfl (by kernel_rfl) (by kernel_rfl) (by kernel_rfl) (fun _ _ _ h => h) (by rfl) ?hy16_17 ?r16_17
        case hy16_17 => (intro w; go_simp; try (with_reducible rfl))
        case r16_17 =>
        try simp only [Act.put, List.setIfInBounds_toArray, List.set_cons_zero, List.set_cons_succ]
        refine wpAnyT_one (i := 17) rfl (by kernel_rfl) (by rfl) (fun K hK => ?_)
        go_simp
        refine hK _ _ (no_need (by kernel_rfl)) ?_
        clear hK K
        try simp only [Act.put, List.setIfInBounds_toArray, List.set_cons_zero, List.set_cons_succ]
        refine wpAnyT_done (by kernel_rfl) ?_ _
        refine NoPanic.normal ?_
        clear d0 d1 d2 df
        go_wp2
        go_roundg (gk - 1)
        case measure => have := HG.out; omega
        case rel =>
          rw [HNX.out, HMK.out] at HF
          exact ⟨k + 1, _, _, by go_num, by omega, by have := HG.out; omega, HF⟩
    · obtain rfl : k = n := by omega
      have hge : ¬ ((k : Int) < k) := by omega
      have hlN : (rdN k k).length ≤ 1000 := by simp [rdN]; omega
      have hlM : (List.replicate k ([] : List Int)).length ≤ 1000 := by simp; omega
      have hmk : List.replicate k ([] : List Int) ++ [[]] = [] :: List.replicate k [] := by rw [← List.replicate_succ', List.replicate_succ]
      have HMK := Lib.hid hmk
      clear hmk HG
      obtain ⟨nx, hnx⟩ : ∃ x, rdN k k = x := ⟨_, rfl⟩
      obtain ⟨mk, hmk⟩ : ∃ x, List.replicate k ([] : List Int) = x := ⟨_, rfl⟩
      have HRA := Lib.hid (And.intro hnx hmk)
      rw [hnx] at hlN hR
      rw [hmk] at hlM hR HMK
      clear hnx hmk
      have hfN : ∀ j, (Value.slice AN nx.length cN).ownBlock = some j → j < wr.heap.size := fun j hj => (hR.on.lt j hj).2
      have hfM : ∀ j, (Value.slice AM mk.length cM).ownBlock = some j → j < wr.heap.size := fun j hj => (hR.om.lt j hj).2
      have hkz := hR.kp.size
      obtain ⟨SS, hSi, hSo⟩ := one_row bo (.cells #[vC, .slice AN nx.length cN, .slice AM mk.length cM] 25 (0, 0))
      have hS : SS wr.drew := hSo _ hR.hb
      have HR := hR.ext (w1 := wr.drew) (Below.refl _ _).drew
      obtain ⟨n, rfl⟩ : ∃ x : Nat, x = k := ⟨_, rfl⟩
      have hlit : ∀ x ∈ [(n : Int), (n : Int)], inI64 x := fun x hx => by
        obtain rfl : x = (n : Int) := by simpa using hx
        constructor <;> omega
      go_upto_region 7 with (fail)
      refine wp_region_noPanic (wp_region_T SS [1, 8] (by kernel_rfl) ?_)
      obtain ⟨z0, hz0⟩ : ∃ z, z = wr.heap.size := ⟨_, rfl⟩
      rw [← hz0] at hfN hfM hkz
      have hz00 : z0 ≤ wr.drew.heap.size := by rw [hz0]; exact Nat.le_refl _
      clear hz0
      generalize wr.drew = y0 at *
      refine wpAnyT_takeY (i := 0) (v := ?v0_18) rfl (by kernel_rfl) (by kernel_rfl) (by kernel_rfl) (fun _ _ _ h => h) (by rfl) ?hy0_18 ?r0_18
      case hy0_18 => (intro w; go_simp; try (with_reducible rfl))
      case r0_18 =>
      try simp only [Act.put, List.setIfInBounds_toArray, List.set_cons_zero, List.set_cons_succ]
      refine wpAnyT_takeY (i := 2) (v := ?v2_19) rfl (by kernel_rfl) (by kernel_rfl) (by kernel_rfl) (fun _ _ _ h => h) (by rfl) ?hy2_19 ?r2_19
      case hy2_19 => (intro w; go_simp; try (with_reducible rfl))
      case r2_19 =>
      try simp only [Act.put, List.setIfInBounds_toArray, List.set_cons_zero, List.set_cons_succ]
      refine wpAnyT_takeY (i := 3) (v := ?v3_20) rfl (by kernel_rfl) (by kernel_rfl) (by kernel_rfl) (fun _ _ _ h => h) (by rfl) ?hy3_20 ?r3_20
      case hy3_20 => (intro w; go_simp; try (with_reducible rfl))
      case r3_20 =>
      try simp only [Act.put, List.setIfInBounds_toArray, List.set_cons_zero, List.set_cons_succ]
      refine wpAnyT_takeY (i := 7) (v := ?v7_21) rfl (by kernel_rfl) (by kernel_rfl) (by kernel_rfl) (fun _ _ _ h => h) (by rfl) ?hy7_21 ?r7_21
      case hy7_21 => (intro w; go_simp; try (with_reducible rfl))
      case r7_21 =>
      try simp only [Act.put, List.setIfInBounds_toArray, List.set_cons_zero, List.set_cons_succ]
      refine wpAnyT_take (i := 1) (v := ?v1_22) rfl rfl (by kernel_rfl) (by kernel_rfl) (by kernel_rfl) (fun _ _ _ h => h) (by rfl) hS ?hy1_22 ?r1_22
      case hy1_22 => (intro w hSw; obtain ⟨f0, f1, f2⟩ := cells3 (hSi _ hSw); (try dsimp only at hSw); go_simp; try (with_reducible rfl))
      case r1_22 =>
      try simp only [Act.put, List.setIfInBounds_toArray, List.set_cons_zero, List.set_cons_succ]
      refine wpAnyT_take (i := 8) (v := ?v8_23) rfl rfl (by kernel_rfl) (by kernel_rfl) (by kernel_rfl) (fun _ _ _ h => h) (by rfl) hS ?hy8_23 ?r8_23
      case hy8_23 => (intro w hSw; obtain ⟨f0, f1, f2⟩ := cells3 (hSi _ hSw); (try dsimp only at hSw); go_simp; try (with_reducible rfl))
      case r8_23 =>
      try simp only [Act.put, List.setIfInBounds_toArray, List.set_cons_zero, List.set_cons_succ]
      clear hSi hS hR
      refine wpAnyT_two (i := 4) (j := 9) rfl rfl (by kernel_rfl) (by rfl) (by rfl) (fun K hK => ?_) (fun K hK => ?_)
      · go_simp
        have hb : Below y0.heap.size y0 (y0.alloc (.cells #[.int .i64 (n : Int), .int .i64 (n : Int)] 3)) := (Below.refl _ _).alloc (Nat.le_refl _) _
        have s1 : y0.heap.size < (y0.alloc (.cells #[.int .i64 (n : Int), .int .i64 (n : Int)] 3)).heap.size := by simp
        have hi : KintF.R (y0.alloc (.cells #[.int .i64 (n : Int), .int .i64 (n : Int)] 3)) (fun k => z0 ≤ k) [(n : Int), (n : Int)] [.slice (some ⟨y0.heap.size, 0, none⟩) 2 2] := (lit_ints y0 3 [(n : Int), (n : Int)] z0 (fun k => z0 ≤ k) hlit (by simp) (by omega) (by omega)).sliceF
        have HR' := HR.ext hb
        refine hK _ _ (fun _ _ => hSo _ HR'.hb) ?_
        clear HR hb
        have HR := HR'
        clear HR'
        clear hK K
        try simp only [Act.put, List.setIfInBounds_toArray, List.set_cons_zero, List.set_cons_succ]
        generalize hy1 : y0.alloc (.cells #[.int .i64 (n : Int), .int .i64 (n : Int)] 3) = y1 at *
        clear hy1
        refine wpAnyT_two (i := 5) (j := 9) rfl rfl (by kernel_rfl) (by rfl) (by rfl) (fun K hK => ?_) (fun K hK => ?_)
        · go_simp
          have hb : Below y1.heap.size y1 (y1.alloc (.cells #[.slice (some ⟨y0.heap.size, 0, none⟩) 2 2] 36)) := (Below.refl _ _).alloc (Nat.le_refl _) _
          have s2 : y1.heap.size < (y1.alloc (.cells #[.slice (some ⟨y0.heap.size, 0, none⟩) 2 2] 36)).heap.size := by simp
          have hn := box_S KintF y1 36 [.slice (some ⟨y0.heap.size, 0, none⟩) 2 2] [(n : Int), (n : Int)] (fun k => z0 ≤ k) (KintF.step hi fun b _ hl => Below.heap_alloc y1 _ b hl) (by omega)
          have HR' := HR.ext hb
          refine hK _ _ (fun _ _ => hSo _ HR'.hb) ?_
          clear HR hb
          have HR := HR'
          clear HR'
          clear hK K
          try simp only [Act.put, List.setIfInBounds_toArray, List.set_cons_zero, List.set_cons_succ]
          generalize hy2 : y1.alloc (.cells #[.slice (some ⟨y0.heap.size, 0, none⟩) 2 2] 36) = y2 at *
          clear hy2
          refine wpAnyT_two (i := 6) (j := 9) rfl rfl (by kernel_rfl) (by rfl) (by rfl) (fun K hK => ?_) (fun K hK => ?_)
          · refine wp_own_appendS KintF y2 W5.heap.size _ _ 23 36 (.slice none 0 0) 24 rfl Tryz.underlying23 info_ints rfl (by decide) (by decide) (.slice AN nx.length cN) nx [[(n : Int), (n : Int)]] (some ⟨y1.heap.size, 0, none⟩) 1 (fun k => W5.heap.size ≤ k ∧ some k ≠ (Value.slice AM mk.length cM).ownBlock) (fun k => z0 ≤ k) rfl rfl hn (fun q c h => KintF.mono (fun b hb => ?cb) h) HR.on (fun k hk => ⟨by omega, fun e => by have := hfM k e.symm; omega⟩) HR.kp.size (by simp; omega) ?_
            case cb =>
              exact ⟨⟨by omega, fun e => by have := hfM b e.symm; omega⟩, fun e => by have := hfN b e.symm; omega⟩
            intro vN' y3 hO hM hv
            obtain ⟨gN, cN', rfl⟩ := hv (by simp)
            have s3 := hM.size
            have hgN : gN < z0 ∨ y2.heap.size ≤ gN := by
              rcases hM.at_ with e | ⟨g, e, hg⟩
              · exact .inl (hfN gN e.symm)
              · have e' : some gN = some g := e
                injection e' with e'; omega
            have hgl := (hO.lt gN rfl).2
            have HH := HR.appN hO hM
            refine hK _ _ (fun _ _ => hSo _ HH.hb) ?_
            clear HR hO hM hv hn hi
            have HR := HH
            clear HH
            try simp only [List.length_append, List.length_cons, List.length_nil] at HR
            clear hK K
            try simp only [Act.put, List.setIfInBounds_toArray, List.set_cons_zero, List.set_cons_succ]
            refine wpAnyT_takeY (i := 11) (v := ?v11_24) rfl (by kernel_rfl) (by kernel_rfl) (by kernel_rfl) (fun _ _ _ h => h) (by rfl) ?hy11_24 ?r11_24
            case hy11_24 => (intro w; go_simp; try (with_reducible rfl))
            case r11_24 =>
            try simp only [Act.put, List.setIfInBounds_toArray, List.set_cons_zero, List.set_cons_succ]
            refine wpAnyT_one (i := 9) rfl (by kernel_rfl) (by rfl) (fun K hK => ?_)
            go_simp
            have hb : Below y3.heap.size y3 (y3.alloc (.cells #[.slice none 0 0] 36)) := (Below.refl _ _).alloc (Nat.le_refl _) _
            have s4 : y3.heap.size < (y3.alloc (.cells #[.slice none 0 0] 36)).heap.size := by simp
            have hm := box_S KintF y3 36 [.slice none 0 0] ([] : List Int) (fun k => z0 ≤ k) KintF_nil (by omega)
            have HR' := HR.ext hb
            refine hK _ _ (fun _ _ => hSo _ HR'.hb) ?_
            clear HR hb
            have HR := HR'
            clear HR'
            clear hK K
            try simp only [Act.put, List.setIfInBounds_toArray, List.set_cons_zero, List.set_cons_succ]
            generalize hy4 : y3.alloc (.cells #[.slice none 0 0] 36) = y4 at *
            clear hy4
            refine wpAnyT_one (i := 10) rfl (by kernel_rfl) (by rfl) (fun K hK => ?_)
            refine wp_own_appendS KintF y4 W5.heap.size _ _ 23 36 (.slice none 0 0) 24 rfl Tryz.underlying23 info_ints rfl (by decide) (by decide) (.slice AM mk.length cM) mk [[]] (some ⟨y3.heap.size, 0, none⟩) 1 (fun k => W5.heap.size ≤ k ∧ some k ≠ (Value.slice (some ⟨gN, 0, none⟩) (nx.length + 1) cN').ownBlock) (fun k => z0 ≤ k ∧ some k ≠ (Value.slice (some ⟨gN, 0, none⟩) (nx.length + 1) cN').ownBlock) rfl rfl (S_nilrow hm ?hne) (fun q c h => KintF.mono (fun b hb => ?cb) h) HR.om (fun k hk => ⟨?ck1, ?ck2⟩) HR.kp.size (by simp; omega) ?_
            case hne => exact fun e => by have e' : y3.heap.size = gN := Option.some.inj e; omega
            case cb => exact ⟨⟨by have := hb.1; omega, hb.2⟩, fun e => by have := hfM b e.symm; have := hb.1; omega⟩
            case ck1 => omega
            case ck2 => exact fun e => by have := (HR.on.lt k e.symm).2; omega
            intro vM' y5 hO hM hv
            obtain ⟨gM, cM', rfl⟩ := hv (by simp)
            have hcz := HR.cells hM
            have HF := HR.appM hO hM
            refine hK _ _ (fun _ _ => hSo _ hcz) ?_
            try simp only [List.length_append, List.length_cons, List.length_nil] at HF
            obtain ⟨d0, d1, d2⟩ := cells3 hcz
            have df : ∀ j, y5.frozen? ⟨bo, j, none⟩ = false := fun j => frozen_of_row _ _ j _ _ hcz
            clear HR hO hM hv hcz hm
            clear hK K
            try simp only [Act.put, List.setIfInBounds_toArray, List.set_cons_zero, List.set_cons_succ]
            refine wpAnyT_one (i := 12) rfl (by kernel_rfl) (by rfl) (fun K hK => ?_)
            go_simp
            refine hK _ _ (no_need (by kernel_rfl)) ?_
            clear hK K
            try simp only [Act.put, List.setIfInBounds_toArray, List.set_cons_zero, List.set_cons_succ]
            refine wpAnyT_takeY (i := 13) (v := ?v13_25) rfl (by kernel_rfl) (by kernel_rfl) (by kernel_rfl) (fun _ _ _ h => h) (by rfl) ?hy13_25 ?r13_25
            case hy13_25 => (intro w; go_simp; try (with_reducible rfl))
            case r13_25 =>
            try simp only [Act.put, List.setIfInBounds_toArray, List.set_cons_zero, List.set_cons_succ]
            refine wpAnyT_one (i := 14) rfl (by kernel_rfl) (by rfl) (fun K hK => ?_)
            go_simp
            refine hK _ _ (no_need (by kernel_rfl)) ?_
            clear hK K
            try simp only [Act.put, List.setIfInBounds_toArray, List.set_cons_zero, List.set_cons_succ]
            refine wpAnyT_done (by kernel_rfl) ?_ _
            refine NoPanic.normal ?_
            clear d0 d1 d2 df
            rw [HMK.out] at HF
            generalize (y5.setCell ⟨bo, 1, none⟩ _).setCell ⟨bo, 2, none⟩ _ = yF at *
            obtain ⟨d0, d1, d2⟩ := cells3 HF.hb
            obtain ⟨um, um0, umf, umz, umb, -⟩ := HF.om.cellK rfl (i := 0) (by simp)
            have umf0 := umf 0
            have hF8 := HF.zero (ei := 3)
            rw [World.setCell_alloc_past _ _ _ _ (HF.om.lt gM rfl).2] at hF8
            have HF8 := Lib.hid hF8
            clear hF8
            have hml : (0 : Int) < (mk.length : Int) + 1 := by omega
            clear HF umf
            go_upto_region 9 with (fail)
            generalize (yF.setCell ⟨gM, 0, none⟩ _).alloc (.cells #[.int .i64 0] 3) = W8 at *
            clear d0 d1 d2 um0 umf0
            have hqt := HF8.out.kp.heap HQ.out (by omega)
            obtain ⟨d0, d1, d2⟩ := cells3 HF8.out.hb
            obtain ⟨v0, v1, v2⟩ := cells3 hqt
            have vf : ∀ j, W8.frozen? ⟨w.heap.size, j, none⟩ = false := fun j => frozen_of_row W8 _ j _ _ hqt
            have hkz8 := HF8.out.kp.size
            have hBz := HBw.out.size
            rw [HVC.out] at d0
            clear hqt
            go_wp2
            obtain ⟨x0, x1, x2, hBF, hoth⟩ := set3 W8 w.heap.size 25 _ _ _ (.slice (some ⟨w2.heap.size, 0, none⟩) 2 2) (.slice (some ⟨gN, 0, none⟩) (nx.length + 1) cN') (.slice (some ⟨gM, 0, none⟩) (mk.length + 1) cM') v0 v1 v2
            have hBf : Below w.heap.size w W8 := HBw.out.trans (HF8.out.kp.below HBw.out.size (fun k hk e => by omega))
            have hrd : rdD n = ⟨[~~~ letS [97], letS [97]], nx ++ [[(n : Int), (n : Int)]], [0] :: mk⟩ := by unfold rdD; rw [HRA.out.1, HRA.out.2]
            refine bodyPost_ret (v := dfaV ⟨some ⟨w2.heap.size, 0, none⟩, 2, some ⟨gN, 0, none⟩, cN', some ⟨gM, 0, none⟩, cM'⟩ ⟨[~~~ letS [97], letS [97]], nx ++ [[(n : Int), (n : Int)]], [0] :: mk⟩) (by simp [results, Tryz.results12, go_sem, x0, x1, x2, dfaV, dfaC]) rfl ⟨⟨some ⟨w2.heap.size, 0, none⟩, 2, some ⟨gN, 0, none⟩, cN', some ⟨gM, 0, none⟩, cM'⟩, by rw [hrd], ?_, hBf.trans (hBF w.heap.size (Nat.le_refl _))⟩
            rw [hrd]
            refine ⟨?_, ?_, ?_⟩
            · exact (((HC.out.keep HF8.out.kp fun k hk _ e => by have := hk.2; omega).step fun k hk _ => hoth k (by have := hk.1; omega)).mono fun k hk => by have := hk.1; omega)
            · have h1 := ((HF8.out.on.step fun k hk _ => hoth k (by have := hk.1; omega)).lower hBz).mono (G := fun k => w.heap.size ≤ k) fun k hk => by have := hk.1; omega
              simpa using h1
            · have h1 := ((HF8.out.om.step fun k hk _ => hoth k (by have := hk.1; omega)).lower hBz).mono (G := fun k => w.heap.size ≤ k) fun k hk => by have := hk.1; omega
              simpa using h1
          · go_simp
            have hb : Below y2.heap.size y2 (y2.alloc (.cells #[.slice none 0 0] 36)) := (Below.refl _ _).alloc (Nat.le_refl _) _
            have s6 : y2.heap.size < (y2.alloc (.cells #[.slice none 0 0] 36)).heap.size := by simp
            have hm := box_S KintF y2 36 [.slice none 0 0] ([] : List Int) (fun k => z0 ≤ k) KintF_nil (by omega)
            have HR' := HR.ext hb
            have hn := S_below hn hb
            refine hK _ _ (fun _ _ => hSo _ HR'.hb) ?_
            clear HR hb
            have HR := HR'
            clear HR'
            clear hK K
            try simp only [Act.put, List.setIfInBounds_toArray, List.set_cons_zero, List.set_cons_succ]
            generalize hy6 : y2.alloc (.cells #[.slice none 0 0] 36) = y6 at *
            clear hy6
            refine wpAnyT_one (i := 6) rfl (by kernel_rfl) (by rfl) (fun K hK => ?_)
            refine wp_own_appendS KintF y6 W5.heap.size _ _ 23 36 (.slice none 0 0) 24 rfl Tryz.underlying23 info_ints rfl (by decide) (by decide) (.slice AN nx.length cN) nx [[(n : Int), (n : Int)]] (some ⟨y1.heap.size, 0, none⟩) 1 (fun k => W5.heap.size ≤ k ∧ some k ≠ (Value.slice AM mk.length cM).ownBlock) (fun k => z0 ≤ k) rfl rfl hn (fun q c h => KintF.mono (fun b hb => ?cb) h) HR.on (fun k hk => ⟨by omega, fun e => by have := hfM k e.symm; omega⟩) HR.kp.size (by simp; omega) ?_
            case cb =>
              exact ⟨⟨by omega, fun e => by have := hfM b e.symm; omega⟩, fun e => by have := hfN b e.symm; omega⟩
            intro vN' y7 hO hM hv
            obtain ⟨gN, cN', rfl⟩ := hv (by simp)
            have s7 := hM.size
            have hgN : gN < z0 ∨ y6.heap.size ≤ gN := by
              rcases hM.at_ with e | ⟨g, e, hg⟩
              · exact .inl (hfN gN e.symm)
              · have e' : some gN = some g := e
                injection e' with e'; omega
            have hgl := (hO.lt gN rfl).2
            have HH := HR.appN hO hM
            have hm := hm.step (w1 := y7) fun b hb hl => hM.block b hl fun e => by have := hfN b e.symm; have hb' : z0 ≤ b := hb; omega
            refine hK _ _ (fun _ _ => hSo _ HH.hb) ?_
            clear HR hO hM hv hn hi
            have HR := HH
            clear HH
            try simp only [List.length_append, List.length_cons, List.length_nil] at HR
            clear hK K
            try simp only [Act.put, List.setIfInBounds_toArray, List.set_cons_zero, List.set_cons_succ]
            refine wpAnyT_takeY (i := 11) (v := ?v11_26) rfl (by kernel_rfl) (by kernel_rfl) (by kernel_rfl) (fun _ _ _ h => h) (by rfl) ?hy11_26 ?r11_26
            case hy11_26 => (intro w; go_simp; try (with_reducible rfl))
            case r11_26 =>
            try simp only [Act.put, List.setIfInBounds_toArray, List.set_cons_zero, List.set_cons_succ]
            refine wpAnyT_one (i := 10) rfl (by kernel_rfl) (by rfl) (fun K hK => ?_)
            refine wp_own_appendS KintF y7 W5.heap.size _ _ 23 36 (.slice none 0 0) 24 rfl Tryz.underlying23 info_ints rfl (by decide) (by decide) (.slice AM mk.length cM) mk [[]] (some ⟨y2.heap.size, 0, none⟩) 1 (fun k => W5.heap.size ≤ k ∧ some k ≠ (Value.slice (some ⟨gN, 0, none⟩) (nx.length + 1) cN').ownBlock) (fun k => z0 ≤ k ∧ some k ≠ (Value.slice (some ⟨gN, 0, none⟩) (nx.length + 1) cN').ownBlock) rfl rfl (S_nilrow hm ?hne) (fun q c h => KintF.mono (fun b hb => ?cb) h) HR.om (fun k hk => ⟨?ck1, ?ck2⟩) HR.kp.size (by simp; omega) ?_
            case hne => exact fun e => by have e' : y2.heap.size = gN := Option.some.inj e; omega
            case cb => exact ⟨⟨by have := hb.1; omega, hb.2⟩, fun e => by have := hfM b e.symm; have := hb.1; omega⟩
            case ck1 => omega
            case ck2 => exact fun e => by have := (HR.on.lt k e.symm).2; omega
            intro vM' y8 hO hM hv
            obtain ⟨gM, cM', rfl⟩ := hv (by simp)
            have hcz := HR.cells hM
            have HF := HR.appM hO hM
            refine hK _ _ (fun _ _ => hSo _ hcz) ?_
            try simp only [List.length_append, List.length_cons, List.length_nil] at HF
            obtain ⟨d0, d1, d2⟩ := cells3 hcz
            have df : ∀ j, y8.frozen? ⟨bo, j, none⟩ = false := fun j => frozen_of_row _ _ j _ _ hcz
            clear HR hO hM hv hcz hm
            clear hK K
            try simp only [Act.put, List.setIfInBounds_toArray, List.set_cons_zero, List.set_cons_succ]
            refine wpAnyT_one (i := 12) rfl (by kernel_rfl) (by rfl) (fun K hK => ?_)
            go_simp
            refine hK _ _ (no_need (by kernel_rfl)) ?_
            clear hK K
            try simp only [Act.put, List.setIfInBounds_toArray, List.set_cons_zero, List.set_cons_succ]
            refine wpAnyT_takeY (i := 13) (v := ?v13_27) rfl (by kernel_rfl) (by kernel_rfl) (by kernel_rfl) (fun _ _ _ h => h) (by rfl) ?hy13_27 ?r13_27
            case hy13_27 => (intro w; go_simp; try (with_reducible rfl))
            case r13_27 =>
            try simp only [Act.put, List.setIfInBounds_toArray, List.set_cons_zero, List.set_cons_succ]
            refine wpAnyT_one (i := 14) rfl (by kernel_rfl) (by rfl) (fun K hK => ?_)
            go_simp
            refine hK _ _ (no_need (by kernel_rfl)) ?_
            clear hK K
            try simp only [Act.put, List.setIfInBounds_toArray, List.set_cons_zero, List.set_cons_succ]
            refine wpAnyT_done (by kernel_rfl) ?_ _
            refine NoPanic.normal ?_
            clear d0 d1 d2 df
            rw [HMK.out] at HF
            generalize (y8.setCell ⟨bo, 1, none⟩ _).setCell ⟨bo, 2, none⟩ _ = yF at *
            obtain ⟨d0, d1, d2⟩ := cells3 HF.hb
            obtain ⟨um, um0, umf, umz, umb, -⟩ := HF.om.cellK rfl (i := 0) (by simp)
            have umf0 := umf 0
            have hF8 := HF.zero (ei := 3)
            rw [World.setCell_alloc_past _ _ _ _ (HF.om.lt gM rfl).2] at hF8
            have HF8 := Lib.hid hF8
            clear hF8
            have hml : (0 : Int) < (mk.length : Int) + 1 := by omega
            clear HF umf
            go_upto_region 9 with (fail)
            generalize (yF.setCell ⟨gM, 0, none⟩ _).alloc (.cells #[.int .i64 0] 3) = W8 at *
            clear d0 d1 d2 um0 umf0
            have hqt := HF8.out.kp.heap HQ.out (by omega)
            obtain ⟨d0, d1, d2⟩ := cells3 HF8.out.hb
            obtain ⟨v0, v1, v2⟩ := cells3 hqt
            have vf : ∀ j, W8.frozen? ⟨w.heap.size, j, none⟩ = false := fun j => frozen_of_row W8 _ j _ _ hqt
            have hkz8 := HF8.out.kp.size
            have hBz := HBw.out.size
            rw [HVC.out] at d0
            clear hqt
            go_wp2
            obtain ⟨x0, x1, x2, hBF, hoth⟩ := set3 W8 w.heap.size 25 _ _ _ (.slice (some ⟨w2.heap.size, 0, none⟩) 2 2) (.slice (some ⟨gN, 0, none⟩) (nx.length + 1) cN') (.slice (some ⟨gM, 0, none⟩) (mk.length + 1) cM') v0 v1 v2
            have hBf : Below w.heap.size w W8 := HBw.out.trans (HF8.out.kp.below HBw.out.size (fun k hk e => by omega))
            have hrd : rdD n = ⟨[~~~ letS [97], letS [97]], nx ++ [[(n : Int), (n : Int)]], [0] :: mk⟩ := by unfold rdD; rw [HRA.out.1, HRA.out.2]
            refine bodyPost_ret (v := dfaV ⟨some ⟨w2.heap.size, 0, none⟩, 2, some ⟨gN, 0, none⟩, cN', some ⟨gM, 0, none⟩, cM'⟩ ⟨[~~~ letS [97], letS [97]], nx ++ [[(n : Int), (n : Int)]], [0] :: mk⟩) (by simp [results, Tryz.results12, go_sem, x0, x1, x2, dfaV, dfaC]) rfl ⟨⟨some ⟨w2.heap.size, 0, none⟩, 2, some ⟨gN, 0, none⟩, cN', some ⟨gM, 0, none⟩, cM'⟩, by rw [hrd], ?_, hBf.trans (hBF w.heap.size (Nat.le_refl _))⟩
            rw [hrd]
            refine ⟨?_, ?_, ?_⟩
            · exact (((HC.out.keep HF8.out.kp fun k hk _ e => by have := hk.2; omega).step fun k hk _ => hoth k (by have := hk.1; omega)).mono fun k hk => by have := hk.1; omega)
            · have h1 := ((HF8.out.on.step fun k hk _ => hoth k (by have := hk.1; omega)).lower hBz).mono (G := fun k => w.heap.size ≤ k) fun k hk => by have := hk.1; omega
              simpa using h1
            · have h1 := ((HF8.out.om.step fun k hk _ => hoth k (by have := hk.1; omega)).lower hBz).mono (G := fun k => w.heap.size ≤ k) fun k hk => by have := hk.1; omega
              simpa using h1
        · go_simp
          have hb : Below y1.heap.size y1 (y1.alloc (.cells #[.slice none 0 0] 36)) := (Below.refl _ _).alloc (Nat.le_refl _) _
          have s9 : y1.heap.size < (y1.alloc (.cells #[.slice none 0 0] 36)).heap.size := by simp
          have hm := box_S KintF y1 36 [.slice none 0 0] ([] : List Int) (fun k => z0 ≤ k) KintF_nil (by omega)
          have HR' := HR.ext hb
          have hi := KintF.below hi hb
          refine hK _ _ (fun _ _ => hSo _ HR'.hb) ?_
          clear HR hb
          have HR := HR'
          clear HR'
          clear hK K
          try simp only [Act.put, List.setIfInBounds_toArray, List.set_cons_zero, List.set_cons_succ]
          generalize hy9 : y1.alloc (.cells #[.slice none 0 0] 36) = y9 at *
          clear hy9
          refine wpAnyT_one (i := 5) rfl (by kernel_rfl) (by rfl) (fun K hK => ?_)
          go_simp
          have hb : Below y9.heap.size y9 (y9.alloc (.cells #[.slice (some ⟨y0.heap.size, 0, none⟩) 2 2] 36)) := (Below.refl _ _).alloc (Nat.le_refl _) _
          have s10 : y9.heap.size < (y9.alloc (.cells #[.slice (some ⟨y0.heap.size, 0, none⟩) 2 2] 36)).heap.size := by simp
          have hn := box_S KintF y9 36 [.slice (some ⟨y0.heap.size, 0, none⟩) 2 2] [(n : Int), (n : Int)] (fun k => z0 ≤ k) (KintF.step hi fun b _ hl => Below.heap_alloc y9 _ b hl) (by omega)
          have HR' := HR.ext hb
          have hm := S_below hm hb
          refine hK _ _ (fun _ _ => hSo _ HR'.hb) ?_
          clear HR hb
          have HR := HR'
          clear HR'
          clear hK K
          try simp only [Act.put, List.setIfInBounds_toArray, List.set_cons_zero, List.set_cons_succ]
          generalize hy10 : y9.alloc (.cells #[.slice (some ⟨y0.heap.size, 0, none⟩) 2 2] 36) = y10 at *
          clear hy10
          refine wpAnyT_one (i := 6) rfl (by kernel_rfl) (by rfl) (fun K hK => ?_)
          refine wp_own_appendS KintF y10 W5.heap.size _ _ 23 36 (.slice none 0 0) 24 rfl Tryz.underlying23 info_ints rfl (by decide) (by decide) (.slice AN nx.length cN) nx [[(n : Int), (n : Int)]] (some ⟨y9.heap.size, 0, none⟩) 1 (fun k => W5.heap.size ≤ k ∧ some k ≠ (Value.slice AM mk.length cM).ownBlock) (fun k => z0 ≤ k) rfl rfl hn (fun q c h => KintF.mono (fun b hb => ?cb) h) HR.on (fun k hk => ⟨by omega, fun e => by have := hfM k e.symm; omega⟩) HR.kp.size (by simp; omega) ?_
          case cb =>
            exact ⟨⟨by omega, fun e => by have := hfM b e.symm; omega⟩, fun e => by have := hfN b e.symm; omega⟩
          intro vN' y11 hO hM hv
          obtain ⟨gN, cN', rfl⟩ := hv (by simp)
          have s11 := hM.size
          have hgN : gN < z0 ∨ y10.heap.size ≤ gN := by
            rcases hM.at_ with e | ⟨g, e, hg⟩
            · exact .inl (hfN gN e.symm)
            · have e' : some gN = some g := e
              injection e' with e'; omega
          have hgl := (hO.lt gN rfl).2
          have HH := HR.appN hO hM
          have hm := hm.step (w1 := y11) fun b hb hl => hM.block b hl fun e => by have := hfN b e.symm; have hb' : z0 ≤ b := hb; omega
          refine hK _ _ (fun _ _ => hSo _ HH.hb) ?_
          clear HR hO hM hv hn hi
          have HR := HH
          clear HH
          try simp only [List.length_append, List.length_cons, List.length_nil] at HR
          clear hK K
          try simp only [Act.put, List.setIfInBounds_toArray, List.set_cons_zero, List.set_cons_succ]
          refine wpAnyT_takeY (i := 11) (v := ?v11_28) rfl (by kernel_rfl) (by kernel_rfl) (by kernel_rfl) (fun _ _ _ h => h) (by rfl) ?hy11_28 ?r11_28
          case hy11_28 => (intro w; go_simp; try (with_reducible rfl))
          case r11_28 =>
          try simp only [Act.put, List.setIfInBounds_toArray, List.set_cons_zero, List.set_cons_succ]
          refine wpAnyT_one (i := 10) rfl (by kernel_rfl) (by rfl) (fun K hK => ?_)
          refine wp_own_appendS KintF y11 W5.heap.size _ _ 23 36 (.slice none 0 0) 24 rfl Tryz.underlying23 info_ints rfl (by decide) (by decide) (.slice AM mk.length cM) mk [[]] (some ⟨y1.heap.size, 0, none⟩) 1 (fun k => W5.heap.size ≤ k ∧ some k ≠ (Value.slice (some ⟨gN, 0, none⟩) (nx.length + 1) cN').ownBlock) (fun k => z0 ≤ k ∧ some k ≠ (Value.slice (some ⟨gN, 0, none⟩) (nx.length + 1) cN').ownBlock) rfl rfl (S_nilrow hm ?hne) (fun q c h => KintF.mono (fun b hb => ?cb) h) HR.om (fun k hk => ⟨?ck1, ?ck2⟩) HR.kp.size (by simp; omega) ?_
          case hne => exact fun e => by have e' : y1.heap.size = gN := Option.some.inj e; omega
          case cb => exact ⟨⟨by have := hb.1; omega, hb.2⟩, fun e => by have := hfM b e.symm; have := hb.1; omega⟩
          case ck1 => omega
          case ck2 => exact fun e => by have := (HR.on.lt k e.symm).2; omega
          intro vM' y12 hO hM hv
          obtain ⟨gM, cM', rfl⟩ := hv (by simp)
          have hcz := HR.cells hM
          have HF := HR.appM hO hM
          refine hK _ _ (fun _ _ => hSo _ hcz) ?_
          try simp only [List.length_append, List.length_cons, List.length_nil] at HF
          obtain ⟨d0, d1, d2⟩ := cells3 hcz
          have df : ∀ j, y12.frozen? ⟨bo, j, none⟩ = false := fun j => frozen_of_row _ _ j _ _ hcz
          clear HR hO hM hv hcz hm
          clear hK K
          try simp only [Act.put, List.setIfInBounds_toArray, List.set_cons_zero, List.set_cons_succ]
          refine wpAnyT_one (i := 12) rfl (by kernel_rfl) (by rfl) (fun K hK => ?_)
          go_simp
          refine hK _ _ (no_need (by kernel_rfl)) ?_
          clear hK K
          try simp only [Act.put, List.setIfInBounds_toArray, List.set_cons_zero, List.set_cons_succ]
          refine wpAnyT_takeY (i := 13) (v := ?v13_29) rfl (by kernel_rfl) (by kernel_rfl) (by kernel_rfl) (fun _ _ _ h => h) (by rfl) ?hy13_29 ?r13_29
          case hy13_29 => (intro w; go_simp; try (with_reducible rfl))
          case r13_29 =>
          try simp only [Act.put, List.setIfInBounds_toArray, List.set_cons_zero, List.set_cons_succ]
          refine wpAnyT_one (i := 14) rfl (by kernel_rfl) (by rfl) (fun K hK => ?_)
          go_simp
          refine hK _ _ (no_need (by kernel_rfl)) ?_
          clear hK K
          try simp only [Act.put, List.setIfInBounds_toArray, List.set_cons_zero, List.set_cons_succ]
          refine wpAnyT_done (by kernel_rfl) ?_ _
          refine NoPanic.normal ?_
          clear d0 d1 d2 df
          rw [HMK.out] at HF
          generalize (y12.setCell ⟨bo, 1, none⟩ _).setCell ⟨bo, 2, none⟩ _ = yF at *
          obtain ⟨d0, d1, d2⟩ := cells3 HF.hb
          obtain ⟨um, um0, umf, umz, umb, -⟩ := HF.om.cellK rfl (i := 0) (by simp)
          have umf0 := umf 0
          have hF8 := HF.zero (ei := 3)
          rw [World.setCell_alloc_past _ _ _ _ (HF.om.lt gM rfl).2] at hF8
          have HF8 := Lib.hid hF8
          clear hF8
          have hml : (0 : Int) < (mk.length : Int) + 1 := by omega
          clear HF umf
          go_upto_region 9 with (fail)
          generalize (yF.setCell ⟨gM, 0, none⟩ _).alloc (.cells #[.int .i64 0] 3) = W8 at *
          clear d0 d1 d2 um0 umf0
          have hqt := HF8.out.kp.heap HQ.out (by omega)
          obtain ⟨d0, d1, d2⟩ := cells3 HF8.out.hb
          obtain ⟨v0, v1, v2⟩ := cells3 hqt
          have vf : ∀ j, W8.frozen? ⟨w.heap.size, j, none⟩ = false := fun j => frozen_of_row W8 _ j _ _ hqt
          have hkz8 := HF8.out.kp.size
          have hBz := HBw.out.size
          rw [HVC.out] at d0
          clear hqt
          go_wp2
          obtain ⟨x0, x1, x2, hBF, hoth⟩ := set3 W8 w.heap.size 25 _ _ _ (.slice (some ⟨w2.heap.size, 0, none⟩) 2 2) (.slice (some ⟨gN, 0, none⟩) (nx.length + 1) cN') (.slice (some ⟨gM, 0, none⟩) (mk.length + 1) cM') v0 v1 v2
          have hBf : Below w.heap.size w W8 := HBw.out.trans (HF8.out.kp.below HBw.out.size (fun k hk e => by omega))
          have hrd : rdD n = ⟨[~~~ letS [97], letS [97]], nx ++ [[(n : Int), (n : Int)]], [0] :: mk⟩ := by unfold rdD; rw [HRA.out.1, HRA.out.2]
          refine bodyPost_ret (v := dfaV ⟨some ⟨w2.heap.size, 0, none⟩, 2, some ⟨gN, 0, none⟩, cN', some ⟨gM, 0, none⟩, cM'⟩ ⟨[~~~ letS [97], letS [97]], nx ++ [[(n : Int), (n : Int)]], [0] :: mk⟩) (by simp [results, Tryz.results12, go_sem, x0, x1, x2, dfaV, dfaC]) rfl ⟨⟨some ⟨w2.heap.size, 0, none⟩, 2, some ⟨gN, 0, none⟩, cN', some ⟨gM, 0, none⟩, cM'⟩, by rw [hrd], ?_, hBf.trans (hBF w.heap.size (Nat.le_refl _))⟩
          rw [hrd]
          refine ⟨?_, ?_, ?_⟩
          · exact (((HC.out.keep HF8.out.kp fun k hk _ e => by have := hk.2; omega).step fun k hk _ => hoth k (by have := hk.1; omega)).mono fun k hk => by have := hk.1; omega)
          · have h1 := ((HF8.out.on.step fun k hk _ => hoth k (by have := hk.1; omega)).lower hBz).mono (G := fun k => w.heap.size ≤ k) fun k hk => by have := hk.1; omega
            simpa using h1
          · have h1 := ((HF8.out.om.step fun k hk _ => hoth k (by have := hk.1; omega)).lower hBz).mono (G := fun k => w.heap.size ≤ k) fun k hk => by have := hk.1; omega
            simpa using h1
      · go_simp
        have hb : Below y0.heap.size y0 (y0.alloc (.cells #[.slice none 0 0] 36)) := (Below.refl _ _).alloc (Nat.le_refl _) _
        have s13 : y0.heap.size < (y0.alloc (.cells #[.slice none 0 0] 36)).heap.size := by simp
        have hm := box_S KintF y0 36 [.slice none 0 0] ([] : List Int) (fun k => z0 ≤ k) KintF_nil (by omega)
        have HR' := HR.ext hb
        refine hK _ _ (fun _ _ => hSo _ HR'.hb) ?_
        clear HR hb
        have HR := HR'
        clear HR'
        clear hK K
        try simp only [Act.put, List.setIfInBounds_toArray, List.set_cons_zero, List.set_cons_succ]
        generalize hy13 : y0.alloc (.cells #[.slice none 0 0] 36) = y13 at *
        clear hy13
        refine wpAnyT_one (i := 4) rfl (by kernel_rfl) (by rfl) (fun K hK => ?_)
        go_simp
        have hb : Below y13.heap.size y13 (y13.alloc (.cells #[.int .i64 (n : Int), .int .i64 (n : Int)] 3)) := (Below.refl _ _).alloc (Nat.le_refl _) _
        have s14 : y13.heap.size < (y13.alloc (.cells #[.int .i64 (n : Int), .int .i64 (n : Int)] 3)).heap.size := by simp
        have hi : KintF.R (y13.alloc (.cells #[.int .i64 (n : Int), .int .i64 (n : Int)] 3)) (fun k => z0 ≤ k) [(n : Int), (n : Int)] [.slice (some ⟨y13.heap.size, 0, none⟩) 2 2] := (lit_ints y13 3 [(n : Int), (n : Int)] z0 (fun k => z0 ≤ k) hlit (by simp) (by omega) (by omega)).sliceF
        have HR' := HR.ext hb
        have hm := S_below hm hb
        refine hK _ _ (fun _ _ => hSo _ HR'.hb) ?_
        clear HR hb
        have HR := HR'
        clear HR'
        clear hK K
        try simp only [Act.put, List.setIfInBounds_toArray, List.set_cons_zero, List.set_cons_succ]
        generalize hy14 : y13.alloc (.cells #[.int .i64 (n : Int), .int .i64 (n : Int)] 3) = y14 at *
        clear hy14
        refine wpAnyT_one (i := 5) rfl (by kernel_rfl) (by rfl) (fun K hK => ?_)
        go_simp
        have hb : Below y14.heap.size y14 (y14.alloc (.cells #[.slice (some ⟨y13.heap.size, 0, none⟩) 2 2] 36)) := (Below.refl _ _).alloc (Nat.le_refl _) _
        have s15 : y14.heap.size < (y14.alloc (.cells #[.slice (some ⟨y13.heap.size, 0, none⟩) 2 2] 36)).heap.size := by simp
        have hn := box_S KintF y14 36 [.slice (some ⟨y13.heap.size, 0, none⟩) 2 2] [(n : Int), (n : Int)] (fun k => z0 ≤ k) (KintF.step hi fun b _ hl => Below.heap_alloc y14 _ b hl) (by omega)
        have HR' := HR.ext hb
        have hm := S_below hm hb
        refine hK _ _ (fun _ _ => hSo _ HR'.hb) ?_
        clear HR hb
        have HR := HR'
        clear HR'
        clear hK K
        try simp only [Act.put, List.setIfInBounds_toArray, List.set_cons_zero, List.set_cons_succ]
        generalize hy15 : y14.alloc (.cells #[.slice (some ⟨y13.heap.size, 0, none⟩) 2 2] 36) = y15 at *
        clear hy15
        refine wpAnyT_one (i := 6) rfl (by kernel_rfl) (by rfl) (fun K hK => ?_)
        refine wp_own_appendS KintF y15 W5.heap.size _ _ 23 36 (.slice none 0 0) 24 rfl Tryz.underlying23 info_ints rfl (by decide) (by decide) (.slice AN nx.length cN) nx [[(n : Int), (n : Int)]] (some ⟨y14.heap.size, 0, none⟩) 1 (fun k => W5.heap.size ≤ k ∧ some k ≠ (Value.slice AM mk.length cM).ownBlock) (fun k => z0 ≤ k) rfl rfl hn (fun q c h => KintF.mono (fun b hb => ?cb) h) HR.on (fun k hk => ⟨by omega, fun e => by have := hfM k e.symm; omega⟩) HR.kp.size (by simp; omega) ?_
        case cb =>
          exact ⟨⟨by omega, fun e => by have := hfM b e.symm; omega⟩, fun e => by have := hfN b e.symm; omega⟩
        intro vN' y16 hO hM hv
        obtain ⟨gN, cN', rfl⟩ := hv (by simp)
        have s16 := hM.size
        have hgN : gN < z0 ∨ y15.heap.size ≤ gN := by
          rcases hM.at_ with e | ⟨g, e, hg⟩
          · exact .inl (hfN gN e.symm)
          · have e' : some gN = some g := e
            injection e' with e'; omega
        have hgl := (hO.lt gN rfl).2
        have HH := HR.appN hO hM
        have hm := hm.step (w1 := y16) fun b hb hl => hM.block b hl fun e => by have := hfN b e.symm; have hb' : z0 ≤ b := hb; omega
        refine hK _ _ (fun _ _ => hSo _ HH.hb) ?_
        clear HR hO hM hv hn hi
        have HR := HH
        clear HH
        try simp only [List.length_append, List.length_cons, List.length_nil] at HR
        clear hK K
        try simp only [Act.put, List.setIfInBounds_toArray, List.set_cons_zero, List.set_cons_succ]
        refine wpAnyT_takeY (i := 11) (v := ?v11_30) rfl (by kernel_rfl) (by kernel_rfl) (by kernel_rfl) (fun _ _ _ h => h) (by rfl) ?hy11_30 ?r11_30
        case hy11_30 => (intro w; go_simp; try (with_reducible rfl))
        case r11_30 =>
        try simp only [Act.put, List.setIfInBounds_toArray, List.set_cons_zero, List.set_cons_succ]
        refine wpAnyT_one (i := 10) rfl (by kernel_rfl) (by rfl) (fun K hK => ?_)
        refine wp_own_appendS KintF y16 W5.heap.size _ _ 23 36 (.slice none 0 0) 24 rfl Tryz.underlying23 info_ints rfl (by decide) (by decide) (.slice AM mk.length cM) mk [[]] (some ⟨y0.heap.size, 0, none⟩) 1 (fun k => W5.heap.size ≤ k ∧ some k ≠ (Value.slice (some ⟨gN, 0, none⟩) (nx.length + 1) cN').ownBlock) (fun k => z0 ≤ k ∧ some k ≠ (Value.slice (some ⟨gN, 0, none⟩) (nx.length + 1) cN').ownBlock) rfl rfl (S_nilrow hm ?hne) (fun q c h => KintF.mono (fun b hb => ?cb) h) HR.om (fun k hk => ⟨?ck1, ?ck2⟩) HR.kp.size (by simp; omega) ?_
        case hne => exact fun e => by have e' : y0.heap.size = gN := Option.some.inj e; omega
        case cb => exact ⟨⟨by have := hb.1; omega, hb.2⟩, fun e => by have := hfM b e.symm; have := hb.1; omega⟩
        case ck1 => omega
        case ck2 => exact fun e => by have := (HR.on.lt k e.symm).2; omega
        intro vM' y17 hO hM hv
        obtain ⟨gM, cM', rfl⟩ := hv (by simp)
        have hcz := HR.cells hM
        have HF := HR.appM hO hM
        refine hK _ _ (fun _ _ => hSo _ hcz) ?_
        try simp only [List.length_append, List.length_cons, List.length_nil] at HF
        obtain ⟨d0, d1, d2⟩ := cells3 hcz
        have df : ∀ j, y17.frozen? ⟨bo, j, none⟩ = false := fun j => frozen_of_row _ _ j _ _ hcz
        clear HR hO hM hv hcz hm
        clear hK K
        try simp only [Act.put, List.setIfInBounds_toArray, List.set_cons_zero, List.set_cons_succ]
        refine wpAnyT_one (i := 12) rfl (by kernel_rfl) (by rfl) (fun K hK => ?_)
        go_simp
        refine hK _ _ (no_need (by kernel_rfl)) ?_
        clear hK K
        try simp only [Act.put, List.setIfInBounds_toArray, List.set_cons_zero, List.set_cons_succ]
        refine wpAnyT_takeY (i := 13) (v := ?v13_31) rfl (by kernel_rfl) (by kernel_rfl) (by kernel_rfl) (fun _ _ _ h => h) (by rfl) ?hy13_31 ?r13_31
        case hy13_31 => (intro w; go_simp; try (with_reducible rfl))
        case r13_31 =>
        try simp only [Act.put, List.setIfInBounds_toArray, List.set_cons_zero, List.set_cons_succ]
        refine wpAnyT_one (i := 14) rfl (by kernel_rfl) (by rfl) (fun K hK => ?_)
        go_simp
        refine hK _ _ (no_need (by kernel_rfl)) ?_
        clear hK K
        try simp only [Act.put, List.setIfInBounds_toArray, List.set_cons_zero, List.set_cons_succ]
        refine wpAnyT_done (by kernel_rfl) ?_ _
        refine NoPanic.normal ?_
        clear d0 d1 d2 df
        rw [HMK.out] at HF
        generalize (y17.setCell ⟨bo, 1, none⟩ _).setCell ⟨bo, 2, none⟩ _ = yF at *
        obtain ⟨d0, d1, d2⟩ := cells3 HF.hb
        obtain ⟨um, um0, umf, umz, umb, -⟩ := HF.om.cellK rfl (i := 0) (by simp)
        have umf0 := umf 0
        have hF8 := HF.zero (ei := 3)
        rw [World.setCell_alloc_past _ _ _ _ (HF.om.lt gM rfl).2] at hF8
        have HF8 := Lib.hid hF8
        clear hF8
        have hml : (0 : Int) < (mk.length : Int) + 1 := by omega
        clear HF umf
        go_upto_region 9 with (fail)
        generalize (yF.setCell ⟨gM, 0, none⟩ _).alloc (.cells #[.int .i64 0] 3) = W8 at *
        clear d0 d1 d2 um0 umf0
        have hqt := HF8.out.kp.heap HQ.out (by omega)
        obtain ⟨d0, d1, d2⟩ := cells3 HF8.out.hb
        obtain ⟨v0, v1, v2⟩ := cells3 hqt
        have vf : ∀ j, W8.frozen? ⟨w.heap.size, j, none⟩ = false := fun j => frozen_of_row W8 _ j _ _ hqt
        have hkz8 := HF8.out.kp.size
        have hBz := HBw.out.size
        rw [HVC.out] at d0
        clear hqt
        go_wp2
        obtain ⟨x0, x1, x2, hBF, hoth⟩ := set3 W8 w.heap.size 25 _ _ _ (.slice (some ⟨w2.heap.size, 0, none⟩) 2 2) (.slice (some ⟨gN, 0, none⟩) (nx.length + 1) cN') (.slice (some ⟨gM, 0, none⟩) (mk.length + 1) cM') v0 v1 v2
        have hBf : Below w.heap.size w W8 := HBw.out.trans (HF8.out.kp.below HBw.out.size (fun k hk e => by omega))
        have hrd : rdD n = ⟨[~~~ letS [97], letS [97]], nx ++ [[(n : Int), (n : Int)]], [0] :: mk⟩ := by unfold rdD; rw [HRA.out.1, HRA.out.2]
        refine bodyPost_ret (v := dfaV ⟨some ⟨w2.heap.size, 0, none⟩, 2, some ⟨gN, 0, none⟩, cN', some ⟨gM, 0, none⟩, cM'⟩ ⟨[~~~ letS [97], letS [97]], nx ++ [[(n : Int), (n : Int)]], [0] :: mk⟩) (by simp [results, Tryz.results12, go_sem, x0, x1, x2, dfaV, dfaC]) rfl ⟨⟨some ⟨w2.heap.size, 0, none⟩, 2, some ⟨gN, 0, none⟩, cN', some ⟨gM, 0, none⟩, cM'⟩, by rw [hrd], ?_, hBf.trans (hBF w.heap.size (Nat.le_refl _))⟩
        rw [hrd]
        refine ⟨?_, ?_, ?_⟩
        · exact (((HC.out.keep HF8.out.kp fun k hk _ e => by have := hk.2; omega).step fun k hk _ => hoth k (by have := hk.1; omega)).mono fun k hk => by have := hk.1; omega)
        · have h1 := ((HF8.out.on.step fun k hk _ => hoth k (by have := hk.1; omega)).lower hBz).mono (G := fun k => w.heap.size ≤ k) fun k hk => by have := hk.1; omega
          simpa using h1
        · have h1 := ((HF8.out.om.step fun k hk _ => hoth k (by have := hk.1; omega)).lower hBz).mono (G := fun k => w.heap.size ≤ k) fun k hk => by have := hk.1; omega
          simpa using h1
end Go.Proofs
