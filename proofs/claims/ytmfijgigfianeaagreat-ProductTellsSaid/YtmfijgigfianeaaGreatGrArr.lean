/- '==' of arrays of whole numbers. sets.Parts: up to the sort. -/
import Derived.Test.YtmfijgigfianeaaGreatGrBase
import Derived.Test.YtmfijgigfianeaaGreatGrSort
import Derived.Test.YtmfijgigfianeaaGreatShelf
section
set_option linter.unusedVariables false
set_option linter.unusedSimpArgs false
namespace Rp
open Go Go.RowKit
theorem run_part_one {P : Program} {e : TypeId} {k : IntKind} (he : P.underlying e = some (.int k)) (cs : Array Value) (i : Nat) (v : Value) (hv : cs[i]? = some v) (w : World) : (part e cs i).run P w = .ok v w := by
  have hagg : ∀ w, (isAgg e).run P w = .ok false w := fun w => by simp [isAgg, run_underlying he]
  unfold part
  simp [hagg, hv]
theorem run_equalIn_ints {P : Program} {t e : TypeId} {k : IntKind} {len : Nat} (ht : P.underlying t = some (.array len e)) (he : P.underlying e = some (.int k)) (hs : ∀ w, (Go.sizeOf e).run P w = .ok 1 w) (d : Nat) (xas bs : List Int) (ha : xas.length = len) (hb : bs.length = len) (w : World) :
    (Op.equalIn (d + 2) t (.agg (xas.map (Value.int k)).toArray) (.agg (bs.map (Value.int k)).toArray)).run P w = .ok (decide (xas = bs)) w := by
  rw [Op.equalIn]
  simp only [Sem.run_bind, run_underlying ht, Result.andThen_ok, hs]
  simp only [Std.Legacy.Range.forIn_eq_forIn_range', Std.Legacy.Range.size, Nat.sub_zero, Nat.add_sub_cancel, Nat.div_one]
  have key : ∀ (m i : Nat), i + m = len → ∀ (w : World), (forIn (m := Sem) (List.range' i m 1) ((none, ()) : Option Bool × Unit) fun i __s => do
        let __do_lift ← part e (List.map (Value.int k) xas).toArray (i * 1)
        let __do_lift_1 ← part e (List.map (Value.int k) bs).toArray (i * 1)
        let __do_lift ← Op.equalIn (d + 1) e __do_lift __do_lift_1
        if (!__do_lift) = true then pure (ForInStep.done (some false, ())) else pure (ForInStep.yield (none, ()))).run P w = .ok (if xas.drop i = bs.drop i then (none, ()) else (some false, ())) w := by
    intro m
    induction m with
    | zero =>
      intro i hi w
      have h1 : xas.drop i = [] := List.drop_eq_nil_of_le (by omega)
      have h2 : bs.drop i = [] := List.drop_eq_nil_of_le (by omega)
      rw [h1, h2]; simp
    | succ m ih =>
      intro i hi w
      have hia : i < xas.length := by omega
      have hib : i < bs.length := by omega
      have pa := run_part_one (P := P) he (xas.map (Value.int k)).toArray (i * 1) (.int k xas[i]) (by simp [hia]) 
      have pb := run_part_one (P := P) he (bs.map (Value.int k)).toArray (i * 1) (.int k bs[i]) (by simp [hib])
      have hq := fun w => run_equalIn_int (P := P) w d e k k xas[i] bs[i] he
      rw [List.range'_succ, List.forIn_cons]
      simp only [Sem.run_bind, pa, pb, hq, Result.andThen_ok]
      rw [List.drop_eq_getElem_cons hia, List.drop_eq_getElem_cons hib]
      by_cases hx : xas[i] = bs[i]
      · have : (xas[i] == bs[i]) = true := by simpa using hx
        simp only [this, Bool.not_true, Bool.false_eq_true, if_false, Sem.run_pure, Result.andThen_ok]
        rw [ih (i + 1) (by omega)]
        simp only [List.cons.injEq, hx, true_and]
      · have : (xas[i] == bs[i]) = false := by simpa using hx
        simp only [this, Bool.not_false, if_true, Sem.run_pure, Result.andThen_ok, List.cons.injEq, hx, false_and, if_false]
  rw [key len 0 (by omega) w]
  by_cases h : xas = bs <;> simp [h]
/-- '==' of two sets. -/
theorem run_eq_set {P : Program} {t e : TypeId} (ht : P.underlying t = some (.array 4 e)) (he : P.underlying e = some (.int .u64)) (hs : ∀ w, (Go.sizeOf e).run P w = .ok 1 w) (s s' : BSet) (w : World) :
    (Op.equalIn 10000 t (setV s) (setV s')).run P w = .ok (decide (s = s')) w := by
  have h := run_equalIn_ints ht he hs 9998 [((wd s 0).toNat : Int), (wd s 1).toNat, (wd s 2).toNat, (wd s 3).toNat] [((wd s' 0).toNat : Int), (wd s' 1).toNat, (wd s' 2).toNat, (wd s' 3).toNat] rfl rfl w
  refine h.trans ?_
  congr 1
  apply decide_eq_decide.2
  constructor
  · intro hl
    simp only [List.cons.injEq, Int.natCast_inj, and_true] at hl
    exact eq_of_wd (BitVec.eq_of_toNat_eq hl.1) (BitVec.eq_of_toNat_eq hl.2.1) (BitVec.eq_of_toNat_eq hl.2.2.1) (BitVec.eq_of_toNat_eq hl.2.2.2)
  · rintro rfl; rfl
end Rp
end

section
set_option linter.unusedVariables false
set_option linter.unusedSimpArgs false
namespace Go.Proofs
open Go.RowKit Go.Shelf Rp
theorem info_set : (Tryz.prog.info? 33).map (fun i => (i.zero, i.size, i.bytes)) = some (some (.agg #[.int .u64 0, .int .u64 0, .int .u64 0, .int .u64 0]), 4, 32) := by kernel_rfl
theorem set_ne (s : BSet) : (Value.bool !(decide (s = 0#256))) = Value.bool (decide (s ≠ 0#256)) := by simp
set_option maxRecDepth 100000 in
set_option maxHeartbeats 2000000 in
theorem c_parts (A : Option Addr) (cap : Nat) (l : List BSet) (F : Nat → Prop) (w : World) (hS : Kset.S w F A l) (hlc : l.length ≤ cap) (hcm : cap ≤ 9223372036854775807) :
    Calls Tryz.prog 66 #[.slice A l.length cap] w fun e w' => ∃ v, e = .returned v ∧ OwnS Kset 33 w' w.heap.size (fun b => w.heap.size ≤ b) v (partsB l) ∧ Below w.heap.size w w' := by
  have hall := c_all w
  generalize hfull : BitVec.allOnes 256 = full at hall
  have HF := Lib.hid hfull
  clear hfull
  go_enter Tryz.func66, Tryz.ntmps66
  go_wp2_with (go_at_call 78; refine hall.mono ?_; rintro e w1 ⟨rfl, hb⟩)
  refine wp_name fun W0 hW0 => ?_
  have hB0 : Below w.heap.size w W0 := by rw [← hW0]; exact (hb.alloc _).below
  have hO0 : OwnS Kset 33 W0 w.heap.size (fun b => w.heap.size ≤ b) (.slice (some ⟨w1.heap.size, 0, none⟩) 1 1) [full] := by
    rw [← hW0]
    refine ⟨fun k hk => ?_, (setC full).toList, World.ownsRow_lit _ (setC full) 1 hb.size (by simp [maxLen]) rfl, Reps.one rfl rfl⟩
    simp [Value.ownBlock] at hk; subst hk; exact hb.size
  clear hW0
  go_loopg [3, 15] (l.length + 1) (fun gk p i wr => ∃ (k : Nat), i = .int .i64 k ∧ k ≤ l.length ∧ gk + k = l.length + 1 ∧ Below w.heap.size w wr ∧ OwnS Kset 33 wr w.heap.size (fun b => w.heap.size ≤ b) p (rawParts (l.take k)))
  case atStart => exact ⟨0, rfl, by omega, by omega, hB0, by rw [List.take_zero]; show OwnS Kset _ _ _ _ _ [BitVec.allOnes 256]; rw [HF.out]; exact hO0⟩
  case round =>
    obtain ⟨wo, rfl⟩ : ∃ wo : World, wo = wr := ⟨_, rfl⟩
    obtain ⟨ga, rfl⟩ : ∃ g, g = gk := ⟨_, rfl⟩
    obtain ⟨k, rfl, hk, hgk, hB, hO⟩ := hrel
    have HG := Lib.hid hgk
    clear hgk
    by_cases hlt : k < l.length
    · obtain ⟨b, off, hA, hFb, hbl, e0, e1, e2, e3⟩ := S_set (Kd.S.step hS fun b' _ hl => hB.block b' hl) hlt
      obtain ⟨A1, cap1, hv, hlc1, hcm1, hS1⟩ := hO.reads
      have hTake := rawParts_take l k hlt
      have hD := disj_raw (l.take k)
      generalize hs : l[k] = s at *
      generalize rawParts (l.take k) = ps at *
      have HT := Lib.hid hTake
      have hpl := hD.length
      clear hTake HF hs
      subst hv hA
      go_wp2
      refine wp_name fun W1 hW1 => ?_
      have hz1 : wo.heap.size < W1.heap.size := by rw [← hW1]; simp
      have hB1 : Below wo.heap.size wo W1 := by rw [← hW1]; exact ((Ext.refl _).alloc _).below
      have f0 : W1.cell? ⟨wo.heap.size, 0, none⟩ = some (u64 (wd s 0)) ∧ W1.cell? ⟨wo.heap.size, 1, none⟩ = some (u64 (wd s 1)) ∧ W1.cell? ⟨wo.heap.size, 2, none⟩ = some (u64 (wd s 2)) ∧ W1.cell? ⟨wo.heap.size, 3, none⟩ = some (u64 (wd s 3)) := by
        rw [← hW1]; clear hW1; refine ⟨?_, ?_, ?_, ?_⟩ <;> go_simp
      have hS1' : Kset.S W1 (fun b => w.heap.size ≤ b) A1 ps := Kd.S.step hS1 fun b' _ hl => hB1.block b' hl
      clear hW1
      go_loopg [6, 21] (ps.length + 1) (fun gk nv i w2 => ∃ (j : Nat), i = .int .i64 j ∧ j ≤ ps.length ∧ gk + j = ps.length + 1 ∧ Below W1.heap.size W1 w2 ∧ OwnS Kset 33 w2 W1.heap.size (fun b => W1.heap.size ≤ b) nv (refineP (ps.take j) s))
      case atStart => exact ⟨0, rfl, by omega, by omega, Below.refl _ _, OwnS.nil _ _ _ _ _⟩
      case round =>
        obtain ⟨w2, rfl⟩ : ∃ w2 : World, w2 = wr := ⟨_, rfl⟩
        obtain ⟨gb, rfl⟩ : ∃ g, g = gk := ⟨_, rfl⟩
        obtain ⟨j, rfl, hj, hgk2, hB2, hO2⟩ := hrel
        have HG2 := Lib.hid hgk2
        clear hgk2
        by_cases hlt2 : j < ps.length
        · obtain ⟨b1, off1, hA1, hFb1, hbl1, g0, g1, g2, g3⟩ := S_set (Kd.S.step hS1' fun b' _ hl => hB2.block b' hl) hlt2
          have hTake2 := refineP_take ps s j hlt2
          have hln := ref_len hD s j
          generalize hp : ps[j] = p at *
          generalize refineP (ps.take j) s = nx at *
          have HT2 := Lib.hid hTake2
          clear hTake2 hp
          subst hA1
          have h1 := c_and p s
          have h2 := c_andNot p s
          have hst : stepPart s p = ([p &&& s, p &&& ~~~ s]).filter (· ≠ 0#256) := rfl
          generalize p &&& s = q1 at *
          generalize p &&& ~~~ s = q2 at *
          have HST := Lib.hid hst
          clear hst
          have fs := fun i => hB2.cell (p := ⟨wo.heap.size, i, none⟩) hz1
          have fs0 := (fs 0).trans f0.1
          have fs1 := (fs 1).trans f0.2.1
          have fs2 := (fs 2).trans f0.2.2.1
          have fs3 := (fs 3).trans f0.2.2.2
          clear fs
          have hzz : wo.heap.size < w2.heap.size := Nat.lt_of_lt_of_le hz1 hB2.size
          go_wp2_with fail
          refine wp_name fun W3 hW3 => ?_
          have hz3 : w2.heap.size < W3.heap.size := by rw [← hW3]; simp
          have hE3 : Ext w2 W3 := by rw [← hW3]; exact (Ext.refl _).alloc _
          have p0 : W3.cell? ⟨w2.heap.size, 0, none⟩ = some (u64 (wd p 0)) ∧ W3.cell? ⟨w2.heap.size, 1, none⟩ = some (u64 (wd p 1)) ∧ W3.cell? ⟨w2.heap.size, 2, none⟩ = some (u64 (wd p 2)) ∧ W3.cell? ⟨w2.heap.size, 3, none⟩ = some (u64 (wd p 3)) := by
            rw [← hW3]; clear hW3; refine ⟨?_, ?_, ?_, ?_⟩ <;> go_simp
          have s0 := (hE3.below.cell (p := ⟨wo.heap.size, 0, none⟩) hzz).trans fs0
          have s1 := (hE3.below.cell (p := ⟨wo.heap.size, 1, none⟩) hzz).trans fs1
          have s2 := (hE3.below.cell (p := ⟨wo.heap.size, 2, none⟩) hzz).trans fs2
          have s3 := (hE3.below.cell (p := ⟨wo.heap.size, 3, none⟩) hzz).trans fs3
          have hzz3 : wo.heap.size < W3.heap.size := by omega
          obtain ⟨p0, p1, p2, p3⟩ := p0
          clear hW3 fs0 fs1 fs2 fs3 g0 g1 g2 g3
          go_region_held3 (fun w' => (∀ b o, b < W3.heap.size → w'.cell? ⟨b, o, none⟩ = W3.cell? ⟨b, o, none⟩) ∧ (∀ b o, b < W3.heap.size → w'.frozen? ⟨b, o, none⟩ = W3.frozen? ⟨b, o, none⟩) ∧ Ext W3 w')
            (first | exact stayE_start _ | exact stayE_step ‹_› hb | exact stayE_step ‹_› ((Ext.refl _).alloc _))
            ((first
              | ((with_reducible refine (h1 _).mono ?_); rintro e w' ⟨rfl, hb⟩)
              | ((with_reducible refine (h2 _).mono ?_); rintro e w' ⟨rfl, hb⟩)))
          clear h1 h2 s0 s1 s2 s3 p0 p1 p2 p3
          rename_i hH0
          have hH := Lib.hid hH0.2.2
          clear hH0
          go_wp2_with fail
          refine wp_name fun W4 hW4 => ?_
          rw [hW4] at hH
          have hE4 : Ext w2 W4 := hE3.trans hH.out
          have q0 : ∀ i u, (setC q1 ++ setC q2)[i]? = some u → W4.cell? ⟨w'.heap.size, i, none⟩ = some u := by
            intro i u hu
            rw [← hW4, cell_of_row _ _ _ _ _ _ (heap_alloc_new w' _)]
            exact hu
          have hg4 : w'.heap.size < W4.heap.size := by rw [← hW4]; simp
          have hg2 : w2.heap.size ≤ w'.heap.size := by
            have h7 := hH.out.size
            have h8 : W4.heap.size = w'.heap.size + 1 := by rw [← hW4]; simp
            omega
          have hO4 := hO2.step (w1 := W4) fun b' _ hl => hE4.below.block b' hl
          clear hW4 hH
          obtain ⟨nv0, rfl⟩ : ∃ v, v = u6 := ⟨_, rfl⟩
          go_loopg [6, 33] 3 (fun gk nv i w4 => ∃ (m : Nat), i = .int .i64 m ∧ m ≤ 2 ∧ gk + m = 3 ∧ Mov W4 w4 nv0.ownBlock nv.ownBlock ∧ OwnS Kset 33 w4 W1.heap.size (fun b => W1.heap.size ≤ b) nv (nx ++ ([q1, q2].take m).filter (· ≠ 0#256)))
          case atStart => exact ⟨0, rfl, by omega, by omega, Mov.refl _ _, by simpa using hO4⟩
          case round =>
            obtain ⟨w4, rfl⟩ : ∃ w4 : World, w4 = wr := ⟨_, rfl⟩
            obtain ⟨m, rfl, hm, hgm, hM, hO5⟩ := hrel
            have hne : some w'.heap.size ≠ nv0.ownBlock := fun e => by have := (hO2.lt _ e.symm).2; omega
            have hW14 : W1.heap.size ≤ w4.heap.size := Nat.le_trans hB2.size (Nat.le_trans hE4.size hM.size)
            by_cases hm2 : m < 2
            · obtain ⟨x, hx⟩ : ∃ x, [q1, q2][m]? = some x := ⟨[q1, q2][m], List.getElem?_eq_getElem hm2⟩
              have hc4 : ∀ j u, (setC x)[j]? = some u → w4.cell? ⟨w'.heap.size, m * 4 + j, none⟩ = some u := by
                intro j u hu
                refine hM.cell (q0 _ u ?_) hne
                have hj : j < 4 := (Array.getElem?_eq_some_iff.1 hu).1
                rcases (by omega : m = 0 ∨ m = 1) with rfl | rfl
                · simp at hx; subst hx
                  rw [Nat.zero_mul, Nat.zero_add, Array.getElem?_append_left (by exact hj)]; exact hu
                · simp at hx; subst hx
                  rw [Array.getElem?_append_right (by show 4 ≤ 1 * 4 + j; omega)]
                  show (setC q2)[1 * 4 + j - 4]? = some u
                  rw [show 1 * 4 + j - 4 = j by omega]; exact hu
              have z0 := hc4 0 _ rfl
              have z1 := hc4 1 _ rfl
              have z2 := hc4 2 _ rfl
              have z3 := hc4 3 _ rfl
              rw [Nat.add_zero] at z0
              have hTm : ([q1, q2].take (m + 1)).filter (· ≠ 0#256) = ([q1, q2].take m).filter (· ≠ 0#256) ++ if x = 0#256 then [] else [x] := by
                rw [List.take_add_one, hx, List.filter_append]
                by_cases h0 : x = 0#256 <;> simp [h0]
              have heq := run_eq_set (P := Tryz.prog) Tryz.underlying33 Tryz.underlying31 Tryz.sizeOf31 x 0#256
              rw [setV_zero] at heq
              simp only [setV, setC, u64] at heq
              have hmc : (m : Int) < 2 := by omega
              have hlm : ([q1, q2].take m).length ≤ 2 := by simp; omega
              have hlf := List.length_filter_le (· ≠ 0#256) ([q1, q2].take m)
              generalize ([q1, q2].take m).filter (· ≠ 0#256) = ft at *
              have HGm := Lib.hid hgm
              have HTm := Lib.hid hTm
              clear hc4 hgm q0 hx hTm hm2
              by_cases hx0 : x = 0#256
              · have hd : decide (x = 0#256) = true := by simpa using hx0
                rw [hd] at heq
                have HX := Lib.hid hx0
                clear hx0 hd
                go_wp2_with fail
                go_roundg (gk - 1)
                case measure => have := HGm.out; omega
                case rel => exact ⟨m + 1, by go_num, by omega, by have := HGm.out; omega, hM.alloc _, by rw [HTm.out, if_pos HX.out, List.append_nil]; exact hO5.step fun b' _ hl => Below.heap_alloc _ _ _ hl⟩
              · have hd : decide (x = 0#256) = false := by simpa using hx0
                rw [hd] at heq
                have HX := Lib.hid hx0
                clear hx0 hd
                have hO6 := hO5.step (w1 := w4.alloc (.cells (setC x) 33)) fun b' _ hl => Below.heap_alloc _ _ _ hl
                go_wp2_with (at_builtin; go_loud (refine own_append Kset (w4.alloc (.cells (setC x) 33)) W1.heap.size (w4.heap.size + 1) rfl _ _ 22 33 (.agg #[.int .u64 0, .int .u64 0, .int .u64 0, .int .u64 0]) 32 rfl Tryz.underlying22 info_set rfl (by decide) (by decide) _ (nx ++ ft) x (setC x).toList _ rfl rfl (by simp) rfl hO6 (fun k' hk' => by simp at hk'; omega) (by simp; omega) (by simp; omega) ?_); intro v1 w1' hO7 hM7 hv7)
                go_roundg (gk - 1)
                case measure => have := HGm.out; omega
                case rel => exact ⟨m + 1, by go_num, by omega, by have := HGm.out; omega, (hM.alloc _).trans hM7, by rw [HTm.out, if_neg HX.out, ← List.append_assoc]; exact hO7⟩
            · obtain rfl : m = 2 := by omega
              have hB5 := Mov.below (hB2.trans (hE4.below.mono hB2.size)) hM (Nat.le_trans hB2.size hE4.size) (fun k' hk' => (hO2.lt k' hk').1)
              clear q0 hO4 hO2 hM hgm hm hne
              go_wp2_with fail
              go_roundg (gb - 1)
              case measure => have := HG2.out; omega
              case rel => exact ⟨j + 1, by go_num, by omega, by have := HG2.out; omega, hB5, by rw [HT2.out, HST.out]; exact hO5⟩
        · obtain rfl : j = ps.length := by omega
          rw [List.take_length] at hO2
          clear hS1' f0
          go_wp2_with fail
          go_roundg (ga - 1)
          case measure => have := HG.out; omega
          case rel => exact ⟨k + 1, by go_num, by omega, by have := HG.out; omega, hB.trans ((hB1.trans (hB2.mono hB1.size)).mono hB.size), by rw [HT.out]; exact (hO2.lower (Nat.le_trans hB.size hB1.size)).mono fun b' hb' => Nat.le_trans (Nat.le_trans hB.size hB1.size) hb'⟩
    · obtain rfl : k = l.length := by omega
      rw [List.take_length] at hO
      obtain ⟨A1, cap1, hv, hlc1, hcm1, hS1⟩ := hO.reads
      have hpos := raw_pos l
      have hle := (disj_raw l).length
      obtain ⟨g, off1, _, hA, hFg, hgl, _⟩ := hS1 (fun e => by rw [e] at hpos; simp at hpos)
      subst hv hA
      have hoff : off1 = 0 := by
        obtain ⟨_, inner, ho, _⟩ := hO
        rcases ho.2 with ⟨hv, _⟩ | ⟨g', cap', cur, hv, _⟩
        · cases hv
        · injection hv with ha; injection ha with ha; injection ha
      subst hoff
      have hH := holds_sets hO
      have hsort := AnyQ.slices_SortFunc_total Tryz.sortSets 4 isAgg_set Tryz.sizeOf33 encS encS_len encS_one cmpB cmp_swo 82 #[] g 0 cap1 (rawParts l).toArray wo enters_compare (cmp_lays _ _ _ _) hH hgl (by simp; omega) cmp_tot
      rw [List.size_toArray] at hsort
      change Calls Tryz.prog 81 _ wo _ at hsort
      have hOs := fun n os => own_sorted (m := n) (os := os) (ts := partsB l) hO (by unfold partsB; rw [List.length_mergeSort])
      have hlen : (partsB l).length = (rawParts l).length := by unfold partsB; rw [List.length_mergeSort]
      change Calls Tryz.prog _ _ wo (fun e w' => e = .returned (.tuple #[]) ∧ ∃ n os, w' = sortWorldK encS 4 wo g 0 n (partsB l).toArray os) at hsort
      generalize rawParts l = ps at *
      generalize hts : partsB l = ts at *
      have HL := Lib.hid hlen
      have HTS := Lib.hid hts
      clear hlen HF hts
      have hres : Calls Tryz.prog 81 #[.slice (some ⟨g, 0, none⟩) ps.length cap1, .func (.func 82) #[] #[]] wo fun e w' => e = .returned (.tuple #[]) ∧ OwnS Kset 33 w' w.heap.size (fun b => w.heap.size ≤ b) (.slice (some ⟨g, 0, none⟩) ps.length cap1) ts ∧ Below w.heap.size w w' := by
        refine hsort.mono ?_
        rintro e w' ⟨rfl, n, os, rfl⟩
        exact ⟨rfl, (hOs n os).1, Mov.below hB (hOs n os).2 hB.size (fun k' hk' => by cases hk'; exact hFg)⟩
      clear hsort hOs hH
      go_wp2_with (go_at_call 81; refine hres.mono ?_; rintro e w' ⟨rfl, hO9, hB9⟩)
      go_ret
      exact ⟨.slice (some ⟨g, 0, none⟩) ps.length cap1, rfl, by rw [HTS.out]; exact hO9, hB9⟩
end Go.Proofs
end
