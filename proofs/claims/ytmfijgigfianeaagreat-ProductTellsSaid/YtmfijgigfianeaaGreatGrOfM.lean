/- product.Of, where nothing is refused at once. -/
import Derived.Test.YtmfijgigfianeaaGreatGrOf
set_option linter.unusedVariables false
set_option linter.unusedSimpArgs false
namespace Go.Proofs
open Go.RowKit Go.Shelf Rp Go.Maps
attribute [local go_sem] Oper.semAt_some
theorem errB_none {a b : Dfa} {op : Nat} {fuel : Int} (h : errB a b op fuel = none) : rightB a = true ∧ rightB b = true ∧ (op = 1 ∨ op = 2 ∨ op = 3 ∨ op = 4) ∧ 0 < fuel ∧ fuel ≤ 4000 := by
  unfold errB at h
  split at h
  · cases h
  · rename_i h1
    split at h
    · cases h
    · split at h
      · cases h
      · split at h
        · cases h
        · simp at h1
          exact ⟨h1.1, h1.2, by omega, by omega, by omega⟩
set_option maxRecDepth 100000 in
set_option maxHeartbeats 1600000 in
theorem c_of_main (A1 A2 A3 B1 B2 B3 : Option Addr) (k1 k2 k3 m1 m2 m3 : Nat) (a b : Dfa) (op : Nat) (fuel : Int) (F : Nat → Prop) (w : World) (hop : op < 256)
    (ha : DfaQ w F A1 k1 A2 k2 A3 k3 a) (hb : DfaQ w F B1 m1 B2 m2 B3 m3 b) (hw : errB a b op fuel = none) :
    Calls Tryz.prog 19 #[.agg #[.slice A1 a.cls.length k1, .slice A2 a.next.length k2, .slice A3 a.marks.length k3], .agg #[.slice B1 b.cls.length m1, .slice B2 b.next.length m2, .slice B3 b.marks.length m3], .int .u8 (op : Int), .int .i64 fuel] w
      fun e w' => ∃ h', e = .returned (.tuple #[dfaV h' (ofB a b op fuel).1, .int .i64 (ofB a b op fuel).2]) ∧ DfaO w' w.heap.size h' (ofB a b op fuel).1 ∧ Below w.heap.size w w' := by
  have hra := fun W' (hW' : Below w.heap.size w W') => (ha.below hW').right
  have hrb := fun W' (hW' : Below w.heap.size w W') => (hb.below hW').right
  have hsy := fun W' => c_says op W' hop
  generalize hsf : sayF op = sf at hsy
  have HSF := Lib.hid hsf
  clear hsf
  go_enter Tryz.func19, Tryz.ntmps19
  go_wp2_with (go_at_call 46; refine (hsy _).mono ?_; rintro e w1 ⟨rfl, rfl⟩)
  refine calls_name fun W0 hW0 => ?_
  have q0 : W0.heap[w.heap.size]? = some (.cells #[.slice A1 a.cls.length k1, .slice A2 a.next.length k2, .slice A3 a.marks.length k3] 25 (0, 0)) := by
    rw [← hW0]; exact (Below.heap_alloc _ _ _ (by simp; omega)).trans ((Below.heap_alloc _ _ _ (by simp)).trans (World.alloc_heap_new w _))
  have q1 : W0.heap[w.heap.size + 1]? = some (.cells #[.slice B1 b.cls.length m1, .slice B2 b.next.length m2, .slice B3 b.marks.length m3] 25 (0, 0)) := by
    rw [← hW0]; refine (Below.heap_alloc _ _ _ (by simp)).trans ?_
    have := World.alloc_heap_new (w.alloc (.cells #[.slice A1 a.cls.length k1, .slice A2 a.next.length k2, .slice A3 a.marks.length k3] 25)) (.cells #[.slice B1 b.cls.length m1, .slice B2 b.next.length m2, .slice B3 b.marks.length m3] 25)
    simpa using this
  have q2 : W0.heap[w.heap.size + 1 + 1]? = some (.cells #[.slice none 0 0, .slice none 0 0, .slice none 0 0] 25 (0, 0)) := by
    rw [← hW0]
    have := World.alloc_heap_new ((w.alloc (.cells #[.slice A1 a.cls.length k1, .slice A2 a.next.length k2, .slice A3 a.marks.length k3] 25)).alloc (.cells #[.slice B1 b.cls.length m1, .slice B2 b.next.length m2, .slice B3 b.marks.length m3] 25)) (.cells #[.slice none 0 0, .slice none 0 0, .slice none 0 0] 25)
    simpa using this
  have hE0 : Ext w W0 := by rw [← hW0]; exact (((Ext.refl _).alloc _).alloc _).alloc _
  have hz0 : W0.heap.size = w.heap.size + 3 := by rw [← hW0]; simp
  clear hW0
  have hcA : ∀ W', Below W0.heap.size W0 W' → W'.cell? ⟨w.heap.size + 1, 0, none⟩ = some (.slice B1 b.cls.length m1) ∧ W'.cell? ⟨w.heap.size + 1, 1, none⟩ = some (.slice B2 b.next.length m2) ∧ W'.cell? ⟨w.heap.size + 1, 2, none⟩ = some (.slice B3 b.marks.length m3) ∧
      W'.cell? ⟨w.heap.size + 1 + 1, 0, none⟩ = some (.slice none 0 0) ∧ W'.cell? ⟨w.heap.size + 1 + 1, 1, none⟩ = some (.slice none 0 0) ∧ W'.cell? ⟨w.heap.size + 1 + 1, 2, none⟩ = some (.slice none 0 0) ∧ (∀ j, W'.frozen? ⟨w.heap.size + 1 + 1, j, none⟩ = false) := fun W' hW' => by
    have e1 := (hW'.block _ (Array.getElem?_eq_some_iff.1 q1).1).trans q1
    have e2 := (hW'.block _ (Array.getElem?_eq_some_iff.1 q2).1).trans q2
    exact ⟨cell_of_row W' _ 0 _ _ _ e1, cell_of_row W' _ 1 _ _ _ e1, cell_of_row W' _ 2 _ _ _ e1, cell_of_row W' _ 0 _ _ _ e2, cell_of_row W' _ 1 _ _ _ e2, cell_of_row W' _ 2 _ _ _ e2, fun j => frozen_of_row W' _ j _ _ e2⟩
  obtain ⟨hA, hB, hop4, hf0, hf1⟩ := errB_none hw
  obtain ⟨fn, rfl⟩ : ∃ fn, .func (.func fn) #[] #[] = sf := by
    rw [← HSF.out]
    rcases hop4 with rfl | rfl | rfl | rfl <;> exact ⟨_, rfl⟩
  have hfn := run_eql_fn fn
  have hmm := @run_makeMap Tryz.prog
  have hup := fun W : World => (World.ownsMap_made (H := Unit) W Tryz.prog 93 (plainElem Tryz.prog 3)).update (t := 94) pk_keyed Tryz.underlying94 (by decide) (pk_key (0, 0) (by simp) (by simp)) (plainElem_int Tryz.underlying3 (a := 0) (by decide))
  have hke := pk_key (0, 0) (by simp) (by simp)
  have hcall := hra W0 hE0.below
  rw [hA] at hcall
  refine hcall.mono ?_
  rintro e w2 ⟨rfl, hB2⟩
  obtain ⟨f3, f4, f5, g3, g4, g5, g6⟩ := hcA w2 hB2
  have hBw := hE0.below.trans (hB2.mono hE0.size)
  have hcall3 := hrb w2 hBw
  rw [hB] at hcall3
  have hcB : ∀ W', Below W0.heap.size W0 W' → W'.cell? ⟨w.heap.size, 0, none⟩ = some (.slice A1 a.cls.length k1) ∧ W'.cell? ⟨w.heap.size, 1, none⟩ = some (.slice A2 a.next.length k2) ∧ W'.cell? ⟨w.heap.size, 2, none⟩ = some (.slice A3 a.marks.length k3) := fun W' hW' => by
    have e1 := (hW'.block _ (Array.getElem?_eq_some_iff.1 q0).1).trans q0
    exact ⟨cell_of_row W' _ 0 _ _ _ e1, cell_of_row W' _ 1 _ _ _ e1, cell_of_row W' _ 2 _ _ _ e1⟩
  have hjn := fun W' (hW' : Below w.heap.size w W') => c_join A1 A2 A3 B1 B2 B3 k1 k2 k3 m1 m2 m3 a b fn F W' (ha.below hW').s1 (hb.below hW').s1 ha.l1 ha.m1 hb.l1 hb.m1
  have hne0 : ¬ fuel < 0 := by omega
  have hne1 : ¬ fuel > 4000 := by omega
  have hne2 : ¬ fuel = 0 := by omega
  clear hcall hra hrb q0 q1 q2
  go_wp2_with (first
    | (go_at_call 47; refine hcall3.mono ?_; rintro e w3 ⟨rfl, hB3⟩; obtain ⟨h3, h4, h5, i3, i4, i5, i6⟩ := hcA w3 (hB2.trans (hB3.mono hB2.size)); obtain ⟨h0, h1, h2⟩ := hcB w3 (hB2.trans (hB3.mono hB2.size)); have hBw3 := hBw.trans (hB3.mono hBw.size))
    | (go_at_call 48; refine (hjn w3 hBw3).mono ?_; rintro e w4 ⟨v1, v2, v3, rfl, hO1, hO2, hO3, hB4⟩; obtain ⟨a1, n1, rfl, _, _, _⟩ := hO1.reads; obtain ⟨a2, n2, rfl, _, _, _⟩ := hO2.reads; obtain ⟨a3, n3, rfl, _, _, _⟩ := hO3.reads; obtain ⟨w5, hrun, hM5, hG5⟩ := hup ((w4.alloc (.cells #[.slice A1 a.cls.length k1, .slice A2 a.next.length k2, .slice A3 a.marks.length k3, .slice B1 b.cls.length m1, .slice B2 b.next.length m2, .slice B3 b.marks.length m3, .slice a1 (allB a b).length n1, .slice a2 (allB a b).length n2, .slice a3 (allB a b).length n3, .func (.func fn) #[] #[]] 90)).alloc (.cells #[.slice a1 (allB a b).length n1, .slice none 0 0, .slice none 0 0] 25)); simp only [World.size_alloc, pairV2, Int.natCast_zero, Int.ofNat_zero, Int.ofNat_eq_natCast] at hrun; try simp only [List.length_map] at *))
  have hG5' := hG5
  have hx4 : w5.heap[w4.heap.size]? = some (.cells #[.slice A1 a.cls.length k1, .slice A2 a.next.length k2, .slice A3 a.marks.length k3, .slice B1 b.cls.length m1, .slice B2 b.next.length m2, .slice B3 b.marks.length m3, .slice a1 (allB a b).length n1, .slice a2 (allB a b).length n2, .slice a3 (allB a b).length n3, .func (.func fn) #[] #[]] 90 (0, 0)) :=
    (hG5.block _ (by simp; omega) (by simp; omega)).trans ((Below.heap_alloc _ _ _ (by simp; omega)).trans ((Below.heap_alloc _ _ _ (by simp)).trans (World.alloc_heap_new w4 _)))
  refine wp_name fun W6 hW6 => ?_
  have hs5 : w4.heap.size + 3 ≤ w5.heap.size := Nat.le_trans (by simp) hG5.size
  have hx6 := (Below.heap_alloc w5 (.cells #[.int .i64 0, .int .i64 0] 93) _ (by omega)).trans hx4
  have hd5 : w5.heap[w4.heap.size + 1]? = some (.cells #[.slice a1 (allB a b).length n1, .slice none 0 0, .slice none 0 0] 25 (0, 0)) :=
    (hG5.block _ (by simp) (by simp)).trans ((Below.heap_alloc _ _ _ (by simp)).trans (by
      have := World.alloc_heap_new (w4.alloc (.cells #[.slice A1 a.cls.length k1, .slice A2 a.next.length k2, .slice A3 a.marks.length k3, .slice B1 b.cls.length m1, .slice B2 b.next.length m2, .slice B3 b.marks.length m3, .slice a1 (allB a b).length n1, .slice a2 (allB a b).length n2, .slice a3 (allB a b).length n3, .func (.func fn) #[] #[]] 90)) (.cells #[.slice a1 (allB a b).length n1, .slice none 0 0, .slice none 0 0] 25)
      simpa using this))
  have hd6 := (Below.heap_alloc w5 (.cells #[.int .i64 0, .int .i64 0] 93) _ (by omega)).trans hd5
  have hM6 := hM5.alloc (.cells #[.int .i64 0, .int .i64 0] 93)
  have hT6 := OwnS.box Kpp 93 w5 [.int .i64 0, .int .i64 0] (0, 0) w5.heap.size (fun k => w5.heap.size ≤ k) (Nat.le_refl _) (Nat.le_refl _) rfl
  have hs6 : (w5.alloc (.cells #[.int .i64 0, .int .i64 0] 93)).heap.size = w5.heap.size + 1 := by simp
  rw [hW6] at hx6 hd6 hM6 hs6
  simp only [World.size_alloc] at hM6
  have hT6' : OwnS Kpp 93 W6 w5.heap.size (fun k => w5.heap.size ≤ k) (.slice (some ⟨w5.heap.size, 0, none⟩) 1 1) [(0, 0)] := by rw [← hW6]; exact hT6
  have hB46 : Below w4.heap.size w4 W6 := by
    rw [← hW6]
    exact (((((Below.refl _ w4).alloc (Nat.le_refl _) _).alloc (by simp) _).alloc (by simp; omega) _).grown hG5 (by simp; omega) (fun k hk => by injection hk with hk; subst hk; simp; omega)).alloc (by omega) _
  clear hW6 hT6 hx4 hd5
  rename (fuel == 0) = false => hfz
  clear hfz
  go_loopg [14] (fuel.toNat + 1) (fun gk vt wr => ∃ (st : OutS) (D : DataW Unit) (vN vM : Value), outRun a b op fuel.toNat (allB a b) (fuel.toNat + 1) ⟨[(0, 0)], [], []⟩ = outRun a b op fuel.toNat (allB a b) gk st ∧
    gk + st.next.length = fuel.toNat + 1 ∧ st.todo.length ≤ fuel.toNat ∧ st.next.length ≤ st.todo.length ∧ st.marks.length = st.next.length ∧ (∀ p ∈ st.todo, p.1 < a.next.length ∧ p.2 < b.next.length) ∧
    wr.ownsMap Tryz.prog 93 (plainElem Tryz.prog 3) (w4.heap.size + 1 + 1) st.todo.length D ∧ MapIs D st.todo ∧ Below w4.heap.size w4 wr ∧ w5.heap.size ≤ wr.heap.size ∧
    wr.heap[w4.heap.size]? = some (.cells #[.slice A1 a.cls.length k1, .slice A2 a.next.length k2, .slice A3 a.marks.length k3, .slice B1 b.cls.length m1, .slice B2 b.next.length m2, .slice B3 b.marks.length m3, .slice a1 (allB a b).length n1, .slice a2 (allB a b).length n2, .slice a3 (allB a b).length n3, .func (.func fn) #[] #[]] 90 (0, 0)) ∧
    wr.heap[w4.heap.size + 1]? = some (.cells #[.slice a1 (allB a b).length n1, vN, vM] 25 (0, 0)) ∧
    OwnS Kpp 93 wr w5.heap.size (fun k => w5.heap.size ≤ k) vt st.todo ∧
    OwnS KintF 36 wr w5.heap.size (fun k => w5.heap.size ≤ k ∧ some k ≠ vt.ownBlock ∧ some k ≠ vM.ownBlock) vN st.next ∧
    OwnS KintF 36 wr w5.heap.size (fun k => w5.heap.size ≤ k ∧ some k ≠ vt.ownBlock ∧ some k ≠ vN.ownBlock) vM st.marks)
  case atStart =>
    have hra : 0 < a.next.length := by
      simp only [rightB, Bool.and_eq_true, decide_eq_true_eq] at hA; omega
    have hrb : 0 < b.next.length := by
      simp only [rightB, Bool.and_eq_true, decide_eq_true_eq] at hB; omega
    exact ⟨⟨[(0, 0)], [], []⟩, _, .slice none 0 0, .slice none 0 0, rfl, by simp, by simp; omega, by simp, rfl, fun p hp => by simp at hp; subst hp; exact ⟨hra, hrb⟩,
      (by simpa using hM6), (MapIs.empty (H := Unit)).step (q := (0, 0)) ⟨by simp, by simp⟩ (by simp), hB46, by omega, hx6, hd6, hT6', OwnS.nil _ _ _ _ _, OwnS.nil _ _ _ _ _⟩
  case round =>
    obtain ⟨st, D, vN, vM, hrun0, hg, htl, hnt, hml, hrange, hM, hD, hBr, hsr, hx, hd, hT, hN, hMk⟩ := hrel
    obtain ⟨At, ct, rfl, ht1, ht2, ht3⟩ := hT.reads
    obtain ⟨An, cn, rfl, hn1, hn2, hn3⟩ := hN.reads
    obtain ⟨Am, cm, rfl, hm1', hm2', hm3'⟩ := hMk.reads
    have y0 := cell_of_row wr _ 0 _ _ _ hd
    have y1 := cell_of_row wr _ 1 _ _ _ hd
    have y2 := cell_of_row wr _ 2 _ _ _ hd
    simp at y0 y1 y2
    by_cases hlt : st.next.length < st.todo.length
    · obtain ⟨bt, ot, rfl, hFt, hbt, hp0, hp1⟩ := S_pp ht3 hlt
      have hlt' : (st.next.length : Int) < st.todo.length := by omega
      have hi0 : (0 : Int) ≤ st.next.length := by omega
      have hpr := hrange _ (List.getElem_mem hlt)
      have hpd : st.todo.getD st.next.length (0, 0) = st.todo[st.next.length] := by simp [List.getD_eq_getElem?_getD, List.getElem?_eq_getElem hlt]
      generalize st.todo[st.next.length] = p at *
      obtain ⟨pa, pb⟩ := p
      dsimp only at hp0 hp1 hpr
      have x6 := cell_of_row wr _ 6 _ _ _ hx
      simp at x6
      have HPD := Lib.hid hpd
      clear hpd
      have HML := Lib.hid hml
      clear hml
      have HG := Lib.hid hg
      clear hg
      have HR := Lib.hid hrun0
      clear hrun0
      have hz4 : w4.heap.size + 1 < wr.heap.size := by omega
      have hz4' : w4.heap.size < wr.heap.size := by omega
      have HO1 := Lib.hid hO1
      have HO2 := Lib.hid hO2
      have HO3 := Lib.hid hO3
      have HM := Lib.hid hM
      have HT := Lib.hid hT
      have HN := Lib.hid hN
      have HMk := Lib.hid hMk
      have HX := Lib.hid hx
      have HD := Lib.hid hd
      have HBr := Lib.hid hBr
      have HBw := Lib.hid hBw3
      have HB4 := Lib.hid hB4
      have HRg := Lib.hid hrange
      have HMI := Lib.hid hD
      have HI := Lib.hid (And.intro i3 (And.intro i4 (And.intro i5 i6)))
      clear hO1 hO2 hO3 hM hT hN hMk hx hd hBr hBw3 hB4 hrange hD hcA hcB hjn hup hcall3 hM6 hT6' hB46 hx6 hd6 hs6 hM5 hG5 hG5' hmm hfn hsy hke f3 f4 f5 g3 g4 g5 g6 h0 h1 h2 h3 h4 h5 i3 i4 i5 i6 hB2 hB3 hBw hE0 hz0 ht3 hn3 hm3'
      obtain ⟨wo, rfl⟩ : ∃ wo : World, wo = wr := ⟨_, rfl⟩
      go_wp2
      refine wp_name fun W7 hW7 => ?_
      have hp15 : W7.heap[wo.heap.size]? = some (.cells #[.int .i64 (pa : Int), .int .i64 (pb : Int)] 93 (0, 0)) := by rw [← hW7]; exact World.alloc_heap_new wo _
      have hB7 : Below wo.heap.size wo W7 := by rw [← hW7]; exact (Below.refl _ _).alloc (Nat.le_refl _) _
      have hz7 : W7.heap.size = wo.heap.size + 1 := by rw [← hW7]; simp
      clear hW7
      have HP15 := Lib.hid hp15
      clear hp15
      obtain ⟨go0, rfl⟩ : ∃ x : Nat, x = gk := ⟨_, rfl⟩
      have hbt5 : w5.heap.size ≤ bt := (HT.out.lt bt (by simp [Value.ownBlock])).1
      go_loopg [14, 16, 76] ((allB a b).length + 1) (fun gk vt vX i wr => ∃ (k : Nat) (t2 : List PP) (X : List Int) (D2 : DataW Unit), i = .int .i64 (k : Int) ∧ k ≤ (allB a b).length ∧ gk + k = (allB a b).length + 1 ∧
        InP (w4.heap.size + 1 + 1) w5.heap.size bt W7 t2.length D2 t2 X vt vX wr ∧ MapIs D2 t2 ∧ inAll fuel.toNat (((allB a b).map (nxtP a b (pa, pb))).drop k) (t2, X) = inAll fuel.toNat ((allB a b).map (nxtP a b (pa, pb))) (st.todo, []) ∧
        X.length = k ∧ t2.length ≤ fuel.toNat ∧ st.todo.length ≤ t2.length ∧ (∀ p ∈ t2, p.1 < a.next.length ∧ p.2 < b.next.length))
      case atStart =>
        exact ⟨0, st.todo, [], D, rfl, Nat.zero_le _, by omega, ⟨HM.out.kept (row := none) ⟨hB7.os, hB7.tape, hB7.output, hB7.size, fun k hk _ => hB7.block k hk⟩ (by simp), Kp.refl _ _, HT.out.step fun b _ hl => hB7.block b hl, .inl rfl, OwnS.nil _ _ _ _ _⟩, HMI.out, rfl, rfl, htl, Nat.le_refl _, HRg.out⟩
      case round =>
        obtain ⟨k, t2, X, D2, rfl, hk, hgk, hP, hMI2, hin, hXl, htl2, ht0, hrg2⟩ := hrel
        have hbm : w4.heap.size + 1 + 1 < w5.heap.size := by omega
        have hw57 : w5.heap.size ≤ W7.heap.size := by omega
        have hB47 : Below w4.heap.size w4 W7 := HBr.out.trans (hB7.mono HBr.out.size)
        have hB4r : Below w4.heap.size w4 wr := hB47.trans (hP.kp.below (by omega) (fun k hk h => by rcases h with h | h <;> omega))
        have hBwr : Below w.heap.size w wr := (HBw.out.trans (HB4.out.mono HBw.out.size)).trans (hB4r.mono (Nat.le_trans HBw.out.size HB4.out.size))
        have hxr := hP.kp.heap ((hB7.block _ (Array.getElem?_eq_some_iff.1 HX.out).1).trans HX.out) (fun h => by rcases h with h | h <;> omega)
        have hpr15 := hP.kp.heap HP15.out (fun h => by rcases h with h | h <;> omega)
        by_cases hkl : k < (allB a b).length
        · have hkl' : (k : Int) < (allB a b).length := by omega
          have hk0 : (0 : Int) ≤ k := by omega
          obtain ⟨ya, na1, na2, na3, na4⟩ := nxt_look hA hpr.1 (allB a b)[k]
          obtain ⟨yb, nb1, nb2, nb3, nb4⟩ := nxt_look hB hpr.2 (allB a b)[k]
          have hcn := c_next A2 B2 a2 a3 k2 m2 n2 n3 0 0 0 0 (.slice A1 a.cls.length k1) (.slice A3 a.marks.length k3) (.slice B1 b.cls.length m1) (.slice B3 b.marks.length m3) (.slice a1 (allB a b).length n1) (.func (.func fn) #[] #[]) a.next b.next ((allB a b).map (byB a)) ((allB a b).map (byB b)) a.next[pa] b.next[pb] pa pb k (byN a (allB a b)[k]) (byN b (allB a b)[k]) (ya : Int) (yb : Int) (fun _ => True) wr
            ((ha.s2.step fun c _ hl => hBwr.block c hl).mono fun _ _ => trivial) ((hb.s2.step fun c _ hl => hBwr.block c hl).mono fun _ _ => trivial) ((HO2.out.readS.step fun c _ hl => hB4r.block c hl).mono fun _ _ => trivial) ((HO3.out.readS.step fun c _ hl => hB4r.block c hl).mono fun _ _ => trivial)
            na1 nb1 (by rw [List.getElem?_map, List.getElem?_eq_getElem hkl]; rfl) (by rw [List.getElem?_map, List.getElem?_eq_getElem hkl]; rfl) na2 nb2
          simp only [List.length_map] at hcn
          have hq : nxtP a b (pa, pb) (allB a b)[k] = (ya, yb) := Prod.ext na3.symm nb3.symm
          have hdrop := qs_drop (nxtP a b (pa, pb)) (allB a b) k hkl
          rw [hq] at hdrop
          rw [hdrop] at hin
          have hsm : smallP (ya, yb) := ⟨by have := (right_len hA).2.1; dsimp only; omega, by have := (right_len hB).2.1; dsimp only; omega⟩
          have hkey := kl_key hsm
          have hx0 := cell_of_row wr _ 0 _ _ _ hxr
          have hx1 := cell_of_row wr _ 1 _ _ _ hxr
          have hx2 := cell_of_row wr _ 2 _ _ _ hxr
          have hx3 := cell_of_row wr _ 3 _ _ _ hxr
          have hx4 := cell_of_row wr _ 4 _ _ _ hxr
          have hx5 := cell_of_row wr _ 5 _ _ _ hxr
          have hx6 := cell_of_row wr _ 6 _ _ _ hxr
          have hx7 := cell_of_row wr _ 7 _ _ _ hxr
          have hx8 := cell_of_row wr _ 8 _ _ _ hxr
          have hx9 := cell_of_row wr _ 9 _ _ _ hxr
          have hq0 := cell_of_row wr _ 0 _ _ _ hpr15
          have hq1 := cell_of_row wr _ 1 _ _ _ hpr15
          simp at hx0 hx1 hx2 hx3 hx4 hx5 hx6 hx7 hx8 hx9 hq0 hq1
          clear na1 na2 na3 nb1 nb2 nb3 hdrop hq x6 y0 y1 y2 hp0 hp1
          have HIn := Lib.hid hin
          have HGk := Lib.hid hgk
          have HXl := Lib.hid hXl
          have HRg2 := Lib.hid hrg2
          have HXr := Lib.hid hxr
          have HP15r := Lib.hid hpr15
          clear hin hgk hXl hrg2 hxr hpr15
          have hall : (allB a b).length ≤ 256 := parts_le _
          have hXle : X.length ≤ 256 := by have := HXl.out; omega
          have ht2le : t2.length ≤ 4000 := by omega
          have hix : inI64 (t2.idxOf (ya, yb) : Int) := by have := List.idxOf_le_length (l := t2) (a := (ya, yb)); constructor <;> omega
          have hil : inI64 (t2.length : Int) := by constructor <;> omega
          have hwf : (Lit.int .i64 (t2.length : Int)).wf = true := by simp [Lit.wf, show IntKind.i64.min = -9223372036854775808 from rfl, show IntKind.i64.max = 9223372036854775807 from rfl]; omega
          obtain ⟨At, ct', rfl, hat1, hat2, _⟩ := hP.ot.reads
          obtain ⟨Ax, cx, rfl, hax1, hax2, _⟩ := hP.ox.reads
          have HP := Lib.hid hP
          have HMI2 := Lib.hid hMI2
          clear hP
          by_cases hqm : (ya, yb) ∈ t2
          · have hhas : Maps.has D2 (kl (ya, yb)) = true := by rw [hMI2.has _ hsm]; simpa using hqm
            have hatk := hMI2.at_ _ hsm hqm (.lit (.int .i64 0))
            have HQ := Lib.hid hqm
            clear hMI2 hqm
            go_wp2_with (first
              | (go_at_call 49; refine hcn.mono ?_; rintro e w8 ⟨rfl, hE8⟩; have hP8 := HP.out.ext hE8.below; have HP9 := Lib.hid (hP8.ext ((Below.refl _ w8).alloc (Nat.le_refl _) (.cells #[.int .i64 (ya : Int), .int .i64 (yb : Int)] 93))))
              | (at_lookup; refine wpList_lookup_own_ok_int _ rfl _ _ 94 rfl 93 3 .i64 pk_keyed Tryz.underlying94 Tryz.underlying3 (zero_int _) (w4.heap.size + 1 + 1) t2.length D2 rfl HP9.out.mp _ _ rfl hkey ?_; intro c hat hwc; obtain rfl : (t2.idxOf (ya, yb) : Int) = c := (by rw [hatk] at hat; injection hat with hat; injection hat); clear hat)
              | (at_builtin; refine own_append Kint (w8.alloc (.cells #[.int .i64 (ya : Int), .int .i64 (yb : Int)] 93)) W7.heap.size (w8.heap.size + 1) rfl _ _ 36 3 (.int .i64 0) 8 rfl Tryz.underlying36 info_int rfl (by decide) (by decide) (.slice Ax X.length cx) X (t2.idxOf (ya, yb) : Int) [.int .i64 (t2.idxOf (ya, yb) : Int)] (fun b => W7.heap.size ≤ b ∧ some b ≠ (Value.slice At t2.length ct').ownBlock) rfl rfl (by simp) ⟨rfl, hix⟩ HP9.out.ox HP9.out.fresh HP9.out.kp.size (by omega) ?_; intro v2 w9 hO9 hM9 hv9))
            go_roundg (gk - 1)
            case measure => have := HGk.out; omega
            case rel => exact ⟨k + 1, t2, X ++ [(t2.idxOf (ya, yb) : Int)], D2, by go_num, by omega, by have := HGk.out; omega, HP9.out.add hbm hw57 hbt5 hO9 hM9, HMI2.out, by rw [← HIn.out, inAll_old HQ.out], by have := HXl.out; simp; omega, htl2, ht0, HRg2.out⟩
          · have hhas : Maps.has D2 (kl (ya, yb)) = false := by rw [hMI2.has _ hsm]; simpa using hqm
            by_cases hfull : t2.length = fuel.toNat
            · have hfe : ((t2.length : Int) == fuel) = true := by simp; omega
              have hB3r : Below w3.heap.size w3 wr := HB4.out.trans (hB4r.mono HB4.out.size)
              have zr3 := bcellS hB3r HI.out.1
              have zr4 := bcellS hB3r HI.out.2.1
              have zr5 := bcellS hB3r HI.out.2.2.1
              have zr6 : ∀ j, wr.frozen? ⟨w.heap.size + 1 + 1, j, none⟩ = false := fun j => (hB3r.frozen (p := ⟨w.heap.size + 1 + 1, j, none⟩) (World.block_lt_of_cell? w3 ⟨w.heap.size + 1 + 1, 0, none⟩ HI.out.1)).trans (HI.out.2.2.2 j)
              have hof : ofB a b op fuel = (⟨[], [], []⟩, 181) := by
                refine of_full hA hB hop4 hf0 hf1 HR.out (by have := HG.out; omega) hlt ?_
                unfold outStep
                rw [HPD.out, ← HIn.out, inAll_full hqm hfull]
              have HOF := Lib.hid hof
              have HQ := Lib.hid hqm
              have HFu := Lib.hid hfull
              have hz3' : w.heap.size + 1 + 1 < wr.heap.size := World.block_lt_of_cell? wr ⟨w.heap.size + 1 + 1, 0, none⟩ zr3
              clear hMI2 hqm hfull hof
              go_wp2_with (first
                | (go_at_call 49; refine hcn.mono ?_; rintro e w8 ⟨rfl, hE8⟩; have hP8 := HP.out.ext hE8.below; have HP9 := Lib.hid (hP8.ext ((Below.refl _ w8).alloc (Nat.le_refl _) (.cells #[.int .i64 (ya : Int), .int .i64 (yb : Int)] 93))); have z3 := bcellS hE8.below zr3; have z4 := bcellS hE8.below zr4; have z5 := bcellS hE8.below zr5; have z6 : ∀ j, w8.frozen? ⟨w.heap.size + 1 + 1, j, none⟩ = false := (fun j => (hE8.below.frozen (p := ⟨w.heap.size + 1 + 1, j, none⟩) hz3').trans (zr6 j)); have hz38 : w.heap.size + 1 + 1 < w8.heap.size := Nat.lt_of_lt_of_le hz3' hE8.size)
                | (at_lookup; refine wpList_lookup_own_ok_int _ rfl _ _ 94 rfl 93 3 .i64 pk_keyed Tryz.underlying94 Tryz.underlying3 (zero_int _) (w4.heap.size + 1 + 1) t2.length D2 rfl HP9.out.mp _ _ rfl hkey ?_; intro c hat hwc; clear hat hwc))
              obtain ⟨u0, u1, u2, hBF, _⟩ := set3 w8 (w.heap.size + 1 + 1) 25 _ _ _ (.slice none 0 0) (.slice none 0 0) (.slice none 0 0) z3 z4 z5
              have hBB := (hBwr.trans (hE8.below.mono hBwr.size)).trans (hBF w.heap.size (by omega))
              have u0 := bcellS ((Below.refl _ _).alloc (Nat.le_refl _) (.cells #[.int .i64 (ya : Int), .int .i64 (yb : Int)] 93)) u0
              have u1 := bcellS ((Below.refl _ _).alloc (Nat.le_refl _) (.cells #[.int .i64 (ya : Int), .int .i64 (yb : Int)] 93)) u1
              have u2 := bcellS ((Below.refl _ _).alloc (Nat.le_refl _) (.cells #[.int .i64 (ya : Int), .int .i64 (yb : Int)] 93)) u2
              refine bodyPost_ret (v := .tuple #[dfaV nilDA noDfa, .int .i64 181]) (by simp [results, Tryz.results19, go_sem, u0, u1, u2, dfaV, dfaC, nilDA, noDfa]) rfl ⟨nilDA, by rw [HOF.out]; rfl, by rw [HOF.out]; exact noDfaO _ _, hBB.alloc hBB.size _⟩
            · have hfe : ((t2.length : Int) == fuel) = false := by simp; omega
              have HQ := Lib.hid hqm
              have HFu := Lib.hid hfull
              clear hMI2 hqm hfull
              go_wp2_with (first
                | (go_at_call 49; refine hcn.mono ?_; rintro e w8 ⟨rfl, hE8⟩; have hP8 := HP.out.ext hE8.below; have HP9 := Lib.hid (hP8.ext ((Below.refl _ w8).alloc (Nat.le_refl _) (.cells #[.int .i64 (ya : Int), .int .i64 (yb : Int)] 93))))
                | (at_lookup; refine wpList_lookup_own_ok_int _ rfl _ _ 94 rfl 93 3 .i64 pk_keyed Tryz.underlying94 Tryz.underlying3 (zero_int _) (w4.heap.size + 1 + 1) t2.length D2 rfl HP9.out.mp _ _ rfl hkey ?_; intro c hat hwc; clear hat hwc)
                | (at_mapUpdate; refine wpList_mapUpdate_own _ rfl _ _ _ 94 rfl 93 3 pk_keyed Tryz.underlying94 _ (w4.heap.size + 1 + 1) t2.length D2 rfl HP9.out.mp (by unfold maxLen; omega) _ _ _ rfl rfl hkey _ [] (plainElem_int Tryz.underlying3 hwf) ?_; intro w9 hm9 hg9; have hz9 : w8.heap.size + 1 ≤ w9.heap.size := (by have := hg9.size; simpa using this); have hb8 : w5.heap.size ≤ w8.heap.size := (by have := hP8.kp.size; omega); have hq9 := cell_of_row w9 _ 0 _ _ _ ((hg9.block w8.heap.size (by simp) (fun e => by injection e with e; omega)).trans (World.alloc_heap_new w8 _)); have hq9' := cell_of_row w9 _ 1 _ _ _ ((hg9.block w8.heap.size (by simp) (fun e => by injection e with e; omega)).trans (World.alloc_heap_new w8 _)); simp at hq9 hq9'; have HP10 := Lib.hid (HP9.out.put hbm hw57 hbt5 hg9 hm9); clear hm9 hg9)
                | (at_builtin; refine own_append Kpp w9 w5.heap.size w9.heap.size rfl _ _ 95 93 (.agg #[.int .i64 0, .int .i64 0]) 16 rfl Tryz.underlying95 info_pair rfl (by decide) (by decide) (.slice At t2.length ct') t2 (ya, yb) [.int .i64 (ya : Int), .int .i64 (yb : Int)] (fun b => w5.heap.size ≤ b) rfl rfl rfl rfl HP10.out.ot (fun k hk => by omega) (by omega) (by omega) ?_; intro vt2 w10 hO10 hM10 hv10; have HP11 := Lib.hid (HP10.out.push hbm hw57 hbt5 hO10 hM10); clear hO10 hM10; obtain ⟨gt2, ct2, rfl⟩ := hv10)
                | (at_builtin; refine own_append Kint w10 W7.heap.size w10.heap.size rfl _ _ 36 3 (.int .i64 0) 8 rfl Tryz.underlying36 info_int rfl (by decide) (by decide) (.slice Ax X.length cx) X (t2.length : Int) [.int .i64 (t2.length : Int)] (fun b => W7.heap.size ≤ b ∧ some b ≠ (Value.slice (some ⟨gt2, 0, none⟩) (t2.length + 1) ct2).ownBlock) rfl rfl rfl ⟨rfl, hil⟩ HP11.out.ox HP11.out.fresh HP11.out.kp.size (by omega) ?_; intro vx2 w11 hO11 hM11 hv11))
              go_roundg (gk - 1)
              case measure => have := HGk.out; omega
              case rel =>
                refine ⟨k + 1, t2 ++ [(ya, yb)], X ++ [(t2.length : Int)], _, by go_num, by omega, by have := HGk.out; omega, ?_, HMI2.out.step hsm HQ.out, by rw [← HIn.out, inAll_new HQ.out HFu.out], by have := HXl.out; simp; omega, ?_, by simp; omega, fun p hp => ?_⟩
                · have := HP11.out.add hbm hw57 hbt5 hO11 hM11
                  simpa using this
                · have := HFu.out; simp; omega
                · rcases List.mem_append.1 hp with hp | hp
                  · exact HRg2.out p hp
                  · rw [List.mem_singleton.1 hp]; exact ⟨na4, nb4⟩
        · obtain rfl : k = (allB a b).length := by omega
          have hkl' : ¬ (((allB a b).length : Nat) : Int) < (allB a b).length := by omega
          rw [List.drop_eq_nil_of_le (by simp)] at hin
          have hst : outStep a b op fuel.toNat (allB a b) st = some ⟨t2, st.next ++ [X], st.marks ++ [markP a b op (pa, pb)]⟩ := by
            unfold outStep
            rw [HPD.out, ← hin]; rfl
          have HST := Lib.hid hst
          clear hst hin
          obtain ⟨At, ct', rfl, hat1, hat2, _⟩ := hP.ot.reads
          obtain ⟨Ax, cx, rfl, hax1, hax2, _⟩ := hP.ox.reads
          have hXl' : X.length ≤ 256 := by rw [hXl]; exact parts_le _
          have HXl := Lib.hid hXl
          clear hXl
          have HRg2 := Lib.hid hrg2
          have HMI2 := Lib.hid hMI2
          have HXr := Lib.hid hxr
          have HP := Lib.hid hP
          have HBwr := Lib.hid hBwr
          have HB4r := Lib.hid hB4r
          have hzr : wo.heap.size + 1 ≤ wr.heap.size := by have := hP.kp.size; omega
          -- the two rows
          have hbt : (Value.slice (some ⟨bt, ot, none⟩) st.todo.length ct).ownBlock = some bt := rfl
          have hNb := HN.out.bound.mono (G := fun k => (w5.heap.size ≤ k ∧ some k ≠ (Value.slice Am st.marks.length cm).ownBlock) ∧ some k ≠ some bt ∧ k < wo.heap.size) fun k hk => ⟨⟨hk.1.1, hk.1.2.2⟩, hk.1.2.1, hk.2⟩
          have hMb := HMk.out.bound.mono (G := fun k => (w5.heap.size ≤ k ∧ some k ≠ (Value.slice An st.next.length cn).ownBlock) ∧ some k ≠ some bt ∧ k < wo.heap.size) fun k hk => ⟨⟨hk.1.1, hk.1.2.2⟩, hk.1.2.1, hk.2⟩
          have hN1 := ((hNb.step (w1 := W7) fun b _ hl => hB7.block b hl).keep hP.kp fun b hb _ h => by
            rcases h with h | h
            · have := hb.1.1; omega
            · exact hb.2.1 (by rw [h]))
          have hM1 := ((hMb.step (w1 := W7) fun b _ hl => hB7.block b hl).keep hP.kp fun b hb _ h => by
            rcases h with h | h
            · have := hb.1.1; omega
            · exact hb.2.1 (by rw [h]))
          clear hNb hMb
          have hyd := hP.kp.heap ((hB7.block _ (Array.getElem?_eq_some_iff.1 HD.out).1).trans HD.out) (fun h => by rcases h with h | h <;> omega)
          have hy1 := cell_of_row wr _ 1 _ _ _ hyd
          have hy2 := cell_of_row wr _ 2 _ _ _ hyd
          simp at hy1 hy2
          have HYD := Lib.hid hyd
          have hAt : ∀ q, (Value.slice At t2.length ct').ownBlock = some q → (q = bt ∨ W7.heap.size ≤ q) ∧ q < wr.heap.size ∧ w5.heap.size ≤ q := fun q hq => by
            have h1 := hP.ot.lt q hq
            refine ⟨?_, h1.2, h1.1⟩
            rcases hP.vo with e | ⟨g, e, hg⟩
            · rw [e] at hq; injection hq with hq; exact .inl hq.symm
            · rw [e] at hq; injection hq with hq; exact .inr (by omega)
          have hAn : ∀ q, (Value.slice An st.next.length cn).ownBlock = some q → w5.heap.size ≤ q ∧ q < wo.heap.size ∧ q ≠ bt ∧ some q ≠ (Value.slice Am st.marks.length cm).ownBlock := fun q hq => by
            have h1 := HN.out.1 q hq
            have h2 := HN.out.lt q hq
            exact ⟨h1.1, h2.2, fun e => h1.2.1 (by rw [e]; rfl), h1.2.2⟩
          have hAm : ∀ q, (Value.slice Am st.marks.length cm).ownBlock = some q → w5.heap.size ≤ q ∧ q < wo.heap.size ∧ q ≠ bt ∧ some q ≠ (Value.slice An st.next.length cn).ownBlock := fun q hq => by
            have h1 := HMk.out.1 q hq
            have h2 := HMk.out.lt q hq
            exact ⟨h1.1, h2.2, fun e => h1.2.1 (by rw [e]; rfl), h1.2.2⟩
          have HAt := Lib.hid hAt
          have HAn := Lib.hid hAn
          have HAm := Lib.hid hAm
          have hpm : pa < a.marks.length := by rw [(right_len hA).2.2]; exact hpr.1
          have hpm' : pb < b.marks.length := by rw [(right_len hB).2.2]; exact hpr.2
          have hmc := fun W' (hW' : Below w.heap.size w W') => c_marksOp op fn hop4 HSF.out A3 B3 k3 m3 (.slice A1 a.cls.length k1) (.slice A2 a.next.length k2) (.slice B1 b.cls.length m1) (.slice B2 b.next.length m2) (.slice a1 (allB a b).length n1) (.slice a2 (allB a b).length n2) (.slice a3 (allB a b).length n3) a.marks b.marks a.marks[pa] b.marks[pb] pa pb (fun _ => True) W'
            ((ha.s3.step fun c _ hl => hW'.block c hl).mono fun _ _ => trivial) ((hb.s3.step fun c _ hl => hW'.block c hl).mono fun _ _ => trivial) (List.getElem?_eq_getElem hpm) (List.getElem?_eq_getElem hpm')
          have hmk : (if sayB op (decide (0 < a.marks[pa].length)) (decide (0 < b.marks[pb].length)) = true then [(0 : Int)] else []) = markP a b op (pa, pb) := by
            unfold markP; simp [List.getD_eq_getElem?_getD, List.getElem?_eq_getElem hpm, List.getElem?_eq_getElem hpm']
          rw [hmk] at hmc
          have hmkl : (markP a b op (pa, pb)).length ≤ 1 := by unfold markP; split <;> simp
          generalize markP a b op (pa, pb) = mk at *
          have HN1 := Lib.hid (hN1.mono (G := fun k => ((w5.heap.size ≤ k ∧ some k ≠ (Value.slice Am st.marks.length cm).ownBlock) ∧ some k ≠ (Value.slice At t2.length ct').ownBlock)) fun k hk => ⟨hk.1, fun e => by
            rcases (hAt k e.symm).1 with h | h
            · exact hk.2.1 (by rw [h])
            · omega⟩)
          have HM1 := Lib.hid (hM1.mono (G := fun k => ((w5.heap.size ≤ k ∧ some k ≠ (Value.slice An st.next.length cn).ownBlock) ∧ some k ≠ (Value.slice At t2.length ct').ownBlock)) fun k hk => ⟨hk.1, fun e => by
            rcases (hAt k e.symm).1 with h | h
            · exact hk.2.1 (by rw [h])
            · omega⟩)
          clear hAt hAn hAm hmk hN1 hM1 hpm hpm'
          have hSf : SOf (w4.heap.size + 1) w4.heap.size wo.heap.size (.cells #[.slice a1 (allB a b).length n1, .slice An st.next.length cn, .slice Am st.marks.length cm] 25 (0, 0)) (.cells #[.slice A1 a.cls.length k1, .slice A2 a.next.length k2, .slice A3 a.marks.length k3, .slice B1 b.cls.length m1, .slice B2 b.next.length m2, .slice B3 b.marks.length m3, .slice a1 (allB a b).length n1, .slice a2 (allB a b).length n2, .slice a3 (allB a b).length n3, .func (.func fn) #[] #[]] 90 (0, 0)) (.cells #[.int .i64 (pa : Int), .int .i64 (pb : Int)] 93 (0, 0)) false wr.drew := hyd
          have hSt : SOf (w4.heap.size + 1) w4.heap.size wo.heap.size (.cells #[.slice a1 (allB a b).length n1, .slice An st.next.length cn, .slice Am st.marks.length cm] 25 (0, 0)) (.cells #[.slice A1 a.cls.length k1, .slice A2 a.next.length k2, .slice A3 a.marks.length k3, .slice B1 b.cls.length m1, .slice B2 b.next.length m2, .slice B3 b.marks.length m3, .slice a1 (allB a b).length n1, .slice a2 (allB a b).length n2, .slice a3 (allB a b).length n3, .func (.func fn) #[] #[]] 90 (0, 0)) (.cells #[.int .i64 (pa : Int), .int .i64 (pb : Int)] 93 (0, 0)) true wr.drew := ⟨hxr, hpr15⟩
          clear hxr hpr15 hP hMI2 hrg2 hBwr hB4r hyd x6 y0 y1 y2 hp0 hp1
          go_wp2
          refine wp_region_noPanic (wp_region_F (SOf (w4.heap.size + 1) w4.heap.size wo.heap.size (.cells #[.slice a1 (allB a b).length n1, .slice An st.next.length cn, .slice Am st.marks.length cm] 25 (0, 0)) (.cells #[.slice A1 a.cls.length k1, .slice A2 a.next.length k2, .slice A3 a.marks.length k3, .slice B1 b.cls.length m1, .slice B2 b.next.length m2, .slice B3 b.marks.length m3, .slice a1 (allB a b).length n1, .slice a2 (allB a b).length n2, .slice a3 (allB a b).length n3, .func (.func fn) #[] #[]] 90 (0, 0)) (.cells #[.int .i64 (pa : Int), .int .i64 (pb : Int)] 93 (0, 0))) (fun b => if b then [7, 8] else [1, 6]) (by kernel_rfl) ?_)
          refine wpAnyF_takeY (i := 0) (v := ?v0_1) rfl (by kernel_rfl) (by kernel_rfl) (by kernel_rfl) (fun _ _ _ h => h) (by rfl) ?hy0_1 ?r0_1
          case hy0_1 => (intro w; go_simp; try (with_reducible rfl))
          case r0_1 =>
          try simp only [Act.put, List.setIfInBounds_toArray, List.set_cons_zero, List.set_cons_succ]
          refine wpAnyF_takeY (i := 2) (v := ?v2_2) rfl (by kernel_rfl) (by kernel_rfl) (by kernel_rfl) (fun _ _ _ h => h) (by rfl) ?hy2_2 ?r2_2
          case hy2_2 => (intro w; go_simp; try (with_reducible rfl))
          case r2_2 =>
          try simp only [Act.put, List.setIfInBounds_toArray, List.set_cons_zero, List.set_cons_succ]
          refine wpAnyF_takeY (i := 5) (v := ?v5_3) rfl (by kernel_rfl) (by kernel_rfl) (by kernel_rfl) (fun _ _ _ h => h) (by rfl) ?hy5_3 ?r5_3
          case hy5_3 => (intro w; go_simp; try (with_reducible rfl))
          case r5_3 =>
          try simp only [Act.put, List.setIfInBounds_toArray, List.set_cons_zero, List.set_cons_succ]
          refine wpAnyF_take false (i := 1) (v := ?v1_4) rfl rfl (by kernel_rfl) (by kernel_rfl) (by kernel_rfl) (fun _ _ _ h => h) (by rfl) hSf ?hy1_4 ?r1_4
          case hy1_4 => (intro w hSw; obtain ⟨e0, e1, e2⟩ := cells3 hSw; (try dsimp only at hSw); go_simp; try (with_reducible rfl))
          case r1_4 =>
          try simp only [Act.put, List.setIfInBounds_toArray, List.set_cons_zero, List.set_cons_succ]
          refine wpAnyF_take false (i := 6) (v := ?v6_5) rfl rfl (by kernel_rfl) (by kernel_rfl) (by kernel_rfl) (fun _ _ _ h => h) (by rfl) hSf ?hy6_5 ?r6_5
          case hy6_5 => (intro w hSw; obtain ⟨e0, e1, e2⟩ := cells3 hSw; (try dsimp only at hSw); go_simp; try (with_reducible rfl))
          case r6_5 =>
          try simp only [Act.put, List.setIfInBounds_toArray, List.set_cons_zero, List.set_cons_succ]
          refine wpAnyF_take true (i := 7) (v := ?v7_6) rfl rfl (by kernel_rfl) (by kernel_rfl) (by kernel_rfl) (fun _ _ _ h => h) (by rfl) hSt ?hy7_6 ?r7_6
          case hy7_6 => (intro w hSw; obtain ⟨e0, e1, e2, e3, e4, e5, e6, e7, e8, e9⟩ := cells10 hSw.1; obtain ⟨f0, f1⟩ := cells2 hSw.2; (try dsimp only at hSw); go_simp; try (with_reducible rfl))
          case r7_6 =>
          try simp only [Act.put, List.setIfInBounds_toArray, List.set_cons_zero, List.set_cons_succ]
          refine wpAnyF_take true (i := 8) (v := ?v8_7) rfl rfl (by kernel_rfl) (by kernel_rfl) (by kernel_rfl) (fun _ _ _ h => h) (by rfl) hSt ?hy8_7 ?r8_7
          case hy8_7 => (intro w hSw; obtain ⟨e0, e1, e2, e3, e4, e5, e6, e7, e8, e9⟩ := cells10 hSw.1; obtain ⟨f0, f1⟩ := cells2 hSw.2; (try dsimp only at hSw); go_simp; try (with_reducible rfl))
          case r8_7 =>
          try simp only [Act.put, List.setIfInBounds_toArray, List.set_cons_zero, List.set_cons_succ]
          refine wpAnyF_one (i := 3) rfl (by kernel_rfl) (by rfl) (fun K hK => ?_)
          go_simp
          refine hK _ _ (fun b _ => SOf.mov (Mov.alloc (Mov.refl wr.drew none) _) (fun _ h => by cases h) b) ?_
          clear hK K
          try simp only [Act.put, List.setIfInBounds_toArray, List.set_cons_zero, List.set_cons_succ]
          refine wpAnyF_one (i := 4) rfl (by kernel_rfl) (by rfl) (fun K hK => ?_)
          refine wp_own_appendS KintF (wr.drew.alloc (.cells #[.slice Ax X.length cx] 36)) w5.heap.size _ _ 23 36 (.slice none 0 0) 24 rfl Tryz.underlying23 info_ints rfl (by decide) (by decide) (.slice An st.next.length cn) st.next [X] (some ⟨wr.heap.size, 0, none⟩) 1 (fun k => ((w5.heap.size ≤ k ∧ some k ≠ (Value.slice Am st.marks.length cm).ownBlock) ∧ some k ≠ (Value.slice At t2.length ct').ownBlock)) (fun b => b = wr.heap.size ∨ (W7.heap.size ≤ b ∧ some b ≠ (Value.slice At t2.length ct').ownBlock)) rfl rfl
            (box_S KintF wr.drew 36 [.slice Ax X.length cx] X _ (KintF.mono (fun _ h => .inr h) (KintF.step HP.out.ox.sliceF fun b _ hl => Below.heap_alloc wr.drew _ b hl)) (.inl rfl))
            (fun q c h => KintF.mono (fun b hb => ?cb) h) (HN1.out.step fun b _ hl => Below.heap_alloc wr.drew _ b hl) (fun k hk => ?ck) (by simp; omega) (by simp; omega) ?_
          case cb =>
            have h0 : wo.heap.size + 1 ≤ b := by rcases hb with h | h <;> omega
            have h1 : some b ≠ (Value.slice At t2.length ct').ownBlock := by
              rcases hb with h | h
              · intro e; have := (HAt.out b e.symm).2.1; omega
              · exact h.2
            exact ⟨⟨⟨by omega, fun e => by have := (HAm.out b e.symm).2.1; omega⟩, h1⟩, fun e => by have := (HAn.out b e.symm).2.1; omega⟩
          case ck =>
            simp at hk
            exact ⟨⟨by omega, fun e => by have := (HAm.out k e.symm).2.1; omega⟩, fun e => by have := (HAt.out k e.symm).2.1; omega⟩
          intro vN' w10 hO10 hM10 hv10
          obtain ⟨gN, cN, rfl⟩ := hv10 (by simp)
          have hz10 : wr.heap.size + 1 ≤ w10.heap.size := by have := hM10.size; simpa using this
          have hB10 : Below w.heap.size w w10 := Mov.below (HBwr.out.drew.alloc HBwr.out.size _) hM10 (Nat.le_trans HBwr.out.size (by simp)) (fun q hq => by have := (HAn.out q hq).1; have := HBw.out.size; have := HB4.out.size; omega)
          have hgN : w5.heap.size ≤ gN := (hO10.lt gN rfl).1
          have HM10 := Lib.hid ((HM1.out.step (w1 := wr.drew.alloc (.cells #[.slice Ax X.length cx] 36)) fun b _ hl => Below.heap_alloc wr.drew _ b hl).away hM10 fun k hk => hk.1.2)
          have HO10 := Lib.hid hO10
          have HMv10 := Lib.hid hM10
          refine hK _ _ (fun b _ => SOf.mov hM10 (fun q hq => ?cs) b) ?_
          case cs => have := HAn.out q hq; omega
          clear hO10 hM10
          clear hK K
          try simp only [Act.put, List.setIfInBounds_toArray, List.set_cons_zero, List.set_cons_succ]
          refine wpAnyF_takeY (i := 12) (v := ?v12_8) rfl (by kernel_rfl) (by kernel_rfl) (by kernel_rfl) (fun _ _ _ h => h) (by rfl) ?hy12_8 ?r12_8
          case hy12_8 => (intro w; go_simp; try (with_reducible rfl))
          case r12_8 =>
          try simp only [Act.put, List.setIfInBounds_toArray, List.set_cons_zero, List.set_cons_succ]
          refine wpAnyF_one (i := 9) rfl (by kernel_rfl) (by rfl) (fun K hK => ?_)
          go_simp
          refine (hmc _ hB10).mono ?_
          rintro e w11 ⟨vK, rfl, hOK, hEK⟩
          obtain ⟨AK, cK, rfl, hk1, hk2, hk3⟩ := hOK.reads
          try dsimp only
          refine hK _ _ (fun b _ => SOf.mov (Mov.of_ext hEK none) (fun _ h => by cases h) b) ?_
          clear hK K
          try simp only [Act.put, List.setIfInBounds_toArray, List.set_cons_zero, List.set_cons_succ]
          refine wpAnyF_one (i := 10) rfl (by kernel_rfl) (by rfl) (fun K hK => ?_)
          go_simp
          refine hK _ _ (fun b _ => SOf.mov (Mov.alloc (Mov.refl w11 none) _) (fun _ h => by cases h) b) ?_
          clear hK K
          try simp only [Act.put, List.setIfInBounds_toArray, List.set_cons_zero, List.set_cons_succ]
          refine wpAnyF_one (i := 11) rfl (by kernel_rfl) (by rfl) (fun K hK => ?_)
          have hz11 := hEK.size
          refine wp_own_appendS KintF (w11.alloc (.cells #[.slice AK mk.length cK] 36)) w5.heap.size _ _ 23 36 (.slice none 0 0) 24 rfl Tryz.underlying23 info_ints rfl (by decide) (by decide) (.slice Am st.marks.length cm) st.marks [mk] (some ⟨w11.heap.size, 0, none⟩) 1 (fun k => ((w5.heap.size ≤ k ∧ some k ≠ (Value.slice An st.next.length cn).ownBlock) ∧ some k ≠ (Value.slice At t2.length ct').ownBlock) ∧ some k ≠ (Value.slice (some ⟨gN, 0, none⟩) (st.next ++ [X]).length cN).ownBlock) (fun b => w10.heap.size ≤ b) rfl rfl
            (box_S KintF w11 36 [.slice AK mk.length cK] mk _ (KintF.step hOK.sliceF fun b _ hl => Below.heap_alloc w11 _ b hl) hz11)
            (fun q c h => KintF.mono (fun b hb => ?cb2) h) ((HM10.out.step fun b _ hl => hEK.below.block b hl).step fun b _ hl => Below.heap_alloc w11 _ b hl) (fun k hk => ?ck2) (by simp; omega) (by have := HML.out; simp; omega) ?_
          case cb2 =>
            have h0 : w10.heap.size ≤ b := hb
            have h1 := (HO10.out.lt gN rfl).2
            exact ⟨⟨⟨⟨by omega, fun e => by have := (HAn.out b e.symm).2.1; omega⟩, fun e => by have := (HAt.out b e.symm).2.1; omega⟩, fun e => by simp [Value.ownBlock] at e; omega⟩, fun e => by have := (HAm.out b e.symm).2.1; omega⟩
          case ck2 =>
            have h1 := (HO10.out.lt gN rfl).2
            simp at hk
            exact ⟨⟨⟨by omega, fun e => by have := (HAn.out k e.symm).2.1; omega⟩, fun e => by have := (HAt.out k e.symm).2.1; omega⟩, fun e => by simp [Value.ownBlock] at e; omega⟩
          intro vM' w12 hO12 hM12 hv12
          obtain ⟨gM, cM, rfl⟩ := hv12 (by simp)
          have HO12 := Lib.hid hO12
          have HMv12 := Lib.hid hM12
          have hN12 := Lib.hid (((HO10.out.step fun b _ hl => hEK.below.block b hl).step (w1 := w11.alloc (.cells #[.slice AK mk.length cK] 36)) fun b _ hl => Below.heap_alloc w11 _ b hl).away hM12 fun k hk => hk.1.2)
          refine hK _ _ (fun b _ => SOf.mov hM12 (fun q hq => ?cs2) b) ?_
          case cs2 => have := HAm.out q hq; omega
          have hgM : w5.heap.size ≤ gM := (hO12.lt gM rfl).1
          have hKf : Kp (fun k => some k = (Value.slice An st.next.length cn).ownBlock ∨ some k = (Value.slice Am st.marks.length cm).ownBlock ∨ k = w4.heap.size + 1) wr w12 :=
            (((((Kp.refl _ wr).drew).alloc (.cells #[.slice Ax X.length cx] 36)).trans (.of_mov HMv10.out fun k hk => .inl hk.symm)).trans (.of_ext hEK)).alloc (.cells #[.slice AK mk.length cK] 36) |>.trans (.of_mov hM12 fun k hk => .inr (.inl hk.symm))
          have HKf := Lib.hid hKf
          have hyd12 := (HMv12.out.heap ((Below.heap_alloc w11 _ _ (by omega)).trans ((hEK.below.block _ (by omega)).trans (HMv10.out.heap ((Below.heap_alloc wr.drew _ _ (by show _ < wr.heap.size; omega)).trans HYD.out) (fun e => by have := HAn.out _ e.symm; omega)))) (fun e => by have := HAm.out _ e.symm; omega))
          have g1 := cell_of_row w12 _ 1 _ _ _ hyd12
          have g2 := cell_of_row w12 _ 2 _ _ _ hyd12
          have g3 : ∀ j, w12.frozen? ⟨w4.heap.size + 1, j, none⟩ = false := fun j => frozen_of_row w12 _ j _ _ hyd12
          simp at g1 g2
          have HY12 := Lib.hid hyd12
          clear hO12 hM12 hKf hyd12
          clear hK K
          try simp only [Act.put, List.setIfInBounds_toArray, List.set_cons_zero, List.set_cons_succ]
          refine wpAnyF_one (i := 13) rfl (by kernel_rfl) (by rfl) (fun K hK => ?_)
          go_simp
          refine hK _ _ (fun b => ?_) ?_
          · cases b with
            | false => exact no_need (by kernel_rfl)
            | true => exact fun _ h => ⟨(Below.heap_setCell _ _ _ _ (by simp <;> omega)).trans h.1, (Below.heap_setCell _ _ _ _ (by simp <;> omega)).trans h.2⟩
          clear hK K
          try simp only [Act.put, List.setIfInBounds_toArray, List.set_cons_zero, List.set_cons_succ]
          refine wpAnyF_takeY (i := 14) (v := ?v14_9) rfl (by kernel_rfl) (by kernel_rfl) (by kernel_rfl) (fun _ _ _ h => h) (by rfl) ?hy14_9 ?r14_9
          case hy14_9 => (intro w; go_simp; try (with_reducible rfl))
          case r14_9 =>
          try simp only [Act.put, List.setIfInBounds_toArray, List.set_cons_zero, List.set_cons_succ]
          refine wpAnyF_one (i := 15) rfl (by kernel_rfl) (by rfl) (fun K hK => ?_)
          go_simp
          refine hK _ _ (fun b => ?_) ?_
          · cases b with
            | false => exact no_need (by kernel_rfl)
            | true => exact no_need (by kernel_rfl)
          clear hK K
          try simp only [Act.put, List.setIfInBounds_toArray, List.set_cons_zero, List.set_cons_succ]
          refine wpAnyF_done (by kernel_rfl) ?_ _
          refine NoPanic.normal ?_
          have e1 : (st.next ++ [X]).length = st.next.length + 1 := by simp
          have e2 : (st.marks ++ [mk]).length = st.marks.length + 1 := by simp
          have hNf := hN12.out
          have hMf := HO12.out
          rw [e1, e2] at hNf
          rw [e1, e2] at hMf
          have f0 := setCell_heap w12 (w4.heap.size + 1) 1 _ _ _ (.slice (some ⟨gN, 0, none⟩) (st.next.length + 1) cN) HY12.out
          have f1 := setCell_heap _ (w4.heap.size + 1) 2 _ _ _ (.slice (some ⟨gM, 0, none⟩) (st.marks.length + 1) cM) f0
          simp at f1
          have hset : ∀ c, c ≠ w4.heap.size + 1 → ((w12.setCell ⟨w4.heap.size + 1, 1, none⟩ (.slice (some ⟨gN, 0, none⟩) (st.next.length + 1) cN)).setCell ⟨w4.heap.size + 1, 2, none⟩ (.slice (some ⟨gM, 0, none⟩) (st.marks.length + 1) cM)).heap[c]? = w12.heap[c]? := fun c hc =>
            (Below.heap_setCell _ _ _ c (by simpa using hc)).trans (Below.heap_setCell _ _ _ c (by simpa using hc))
          have hKs : Kp (fun k => k = w4.heap.size + 1) w12 ((w12.setCell ⟨w4.heap.size + 1, 1, none⟩ (.slice (some ⟨gN, 0, none⟩) (st.next.length + 1) cN)).setCell ⟨w4.heap.size + 1, 2, none⟩ (.slice (some ⟨gM, 0, none⟩) (st.marks.length + 1) cM)) := ((Kp.refl (fun k => k = w4.heap.size + 1) w12).setCell ⟨w4.heap.size + 1, 1, none⟩ rfl _).setCell ⟨w4.heap.size + 1, 2, none⟩ rfl _
          have hmp := ((((((HP.out.mp.drew.alloc (.cells #[.slice Ax X.length cx] 36)).kept HMv10.out.grown (fun e => by have := (HAn.out _ e.symm).1; omega)).kept (row := none) ⟨hEK.below.os, hEK.below.tape, hEK.below.output, hEK.below.size, fun k hk _ => hEK.below.block k hk⟩ (by simp)).alloc (.cells #[.slice AK mk.length cK] 36)).kept HMv12.out.grown (fun e => by have := (HAm.out _ e.symm).1; omega)).setCell (a := ⟨w4.heap.size + 1, 1, none⟩) (by simp) (.slice (some ⟨gN, 0, none⟩) (st.next.length + 1) cN)).setCell (a := ⟨w4.heap.size + 1, 2, none⟩) (by simp) (.slice (some ⟨gM, 0, none⟩) (st.marks.length + 1) cM)
          have hKf2 := HKf.out.trans (hKs.mono (T := (fun k => some k = (Value.slice An st.next.length cn).ownBlock ∨ some k = (Value.slice Am st.marks.length cm).ownBlock ∨ k = w4.heap.size + 1)) fun k _ h => .inr (.inr h))
          have hot := ((HP.out.ot.reF flatPp (G := fun k => some k = (Value.slice At t2.length ct').ownBlock) fun k hk => hk.symm).keep hKf2 (fun c hc _ h => by
            have h1 := HAt.out c hc.symm
            rcases h with h | h | h
            · have := HAn.out c h.symm; omega
            · have := HAm.out c h.symm; omega
            · omega)).reF flatPp (G := fun k => w5.heap.size ≤ k) fun k hk => (HAt.out k hk).2.2
          have hNf2 := (hNf.keep hKs fun c hc _ h => by have := hc.1.1.1; omega).mono (G := fun k => w5.heap.size ≤ k ∧ some k ≠ (Value.slice At t2.length ct').ownBlock ∧ some k ≠ (Value.slice (some ⟨gM, 0, none⟩) (st.marks.length + 1) cM).ownBlock) fun k hk => ⟨hk.1.1.1, hk.1.2, hk.2⟩
          have hMf2 := (hMf.keep hKs fun c hc _ h => by have := hc.1.1.1; omega).mono (G := fun k => w5.heap.size ≤ k ∧ some k ≠ (Value.slice At t2.length ct').ownBlock ∧ some k ≠ (Value.slice (some ⟨gN, 0, none⟩) (st.next.length + 1) cN).ownBlock) fun k hk => ⟨hk.1.1.1, hk.1.2, hk.2⟩
          have hBf : Below w4.heap.size w4 ((w12.setCell ⟨w4.heap.size + 1, 1, none⟩ (.slice (some ⟨gN, 0, none⟩) (st.next.length + 1) cN)).setCell ⟨w4.heap.size + 1, 2, none⟩ (.slice (some ⟨gM, 0, none⟩) (st.marks.length + 1) cM)) := HB4r.out.trans (hKf2.below (by omega) (fun k hk h => by
            rcases h with h | h | h
            · have := HAn.out k h.symm; omega
            · have := HAm.out k h.symm; omega
            · omega))
          have hxf := hKf2.heap HXr.out (fun h => by
            rcases h with h | h | h
            · have := HAn.out _ h.symm; omega
            · have := HAm.out _ h.symm; omega
            · omega)
          have hszf := hKf2.size
          clear hset f0 hNf hMf hKs
          go_wp2
          generalize (w12.setCell ⟨w4.heap.size + 1, 1, none⟩ (.slice (some ⟨gN, 0, none⟩) (st.next.length + 1) cN)).setCell ⟨w4.heap.size + 1, 2, none⟩ (.slice (some ⟨gM, 0, none⟩) (st.marks.length + 1) cM) = wf at *
          go_roundg (go0 - 1)
          case measure => have := HG.out; omega
          case rel => exact ⟨⟨t2, st.next ++ [X], st.marks ++ [mk]⟩, D2, _, _, HR.out.trans (of_step (by have := HG.out; omega) hlt HST.out), by have := HG.out; simp; omega, htl2, by simp; omega, by have := HML.out; simp; omega, HRg2.out, hmp, HMI2.out, hBf, by omega, hxf, f1, hot, hNf2, hMf2⟩
    · have hle : ¬ (st.next.length : Int) < st.todo.length := by omega
      have hBr3 := hB4.trans (hBr.mono hB4.size)
      have z3 := bcellS hBr3 i3
      have z4 := bcellS hBr3 i4
      have z5 := bcellS hBr3 i5
      have z6 : ∀ j, wr.frozen? ⟨w.heap.size + 1 + 1, j, none⟩ = false := fun j => (hBr3.frozen (p := ⟨w.heap.size + 1 + 1, j, none⟩) (World.block_lt_of_cell? w3 ⟨w.heap.size + 1 + 1, 0, none⟩ i3)).trans (i6 j)
      have HD := Lib.hid hd
      have HN := Lib.hid hN
      have HM := Lib.hid hMk
      clear hd hN hMk hT hM hx
      have hres : ofB a b op fuel = (⟨allB a b, st.next, st.marks⟩, 0) := by
        have hst : outRun a b op fuel.toNat (allB a b) gk st = some st := by
          cases gk with
          | zero => rfl
          | succ g => unfold outRun; rw [if_neg hlt]
        have hop' : ¬ (op = 0 ∨ 4 < op) := by omega
        have hfu' : ¬ (fuel < 0 ∨ fuel > 4000) := by omega
        unfold ofB prodB
        rw [hA, hB, if_neg (by simp), if_neg hop', if_neg hfu', if_neg hne2, hrun0, hst]; rfl
      have HR := Lib.hid hres
      have HML := Lib.hid hml
      clear hres
      go_wp2
      obtain ⟨u0, u1, u2, hBF, hoth⟩ := set3 wr (w.heap.size + 1 + 1) 25 _ _ _ (.slice a1 (allB a b).length n1) (.slice An st.next.length cn) (.slice Am st.next.length cm) z3 z4 z5
      refine bodyPost_ret (v := .tuple #[dfaV ⟨a1, n1, An, cn, Am, cm⟩ ⟨allB a b, st.next, st.marks⟩, .int .i64 0]) (by simp [results, Tryz.results19, go_sem, u0, u1, u2, dfaV, dfaC, HML.out]) rfl ⟨⟨a1, n1, An, cn, Am, cm⟩, by rw [HR.out], ?_, ?_⟩
      · rw [HR.out]
        have hz3' : w.heap.size + 1 + 1 < w3.heap.size := World.block_lt_of_cell? w3 ⟨w.heap.size + 1 + 1, 0, none⟩ i3
        have hw3 : w.heap.size ≤ w3.heap.size := hBw3.size
        have hw5 : w3.heap.size ≤ w5.heap.size := by have := hB4.size; omega
        have o1 := ((hO1.step (w1 := wr) fun b _ hl => hBr.block b hl).step (w1 := (((wr.setCell ⟨w.heap.size + 1 + 1, 0, none⟩ (.slice a1 (allB a b).length n1)).setCell ⟨w.heap.size + 1 + 1, 1, none⟩ (.slice An st.next.length cn)).setCell ⟨w.heap.size + 1 + 1, 2, none⟩ (.slice Am st.next.length cm))) fun b hb _ => hoth b (by omega))
        have o2 := HN.out.step (w1 := (((wr.setCell ⟨w.heap.size + 1 + 1, 0, none⟩ (.slice a1 (allB a b).length n1)).setCell ⟨w.heap.size + 1 + 1, 1, none⟩ (.slice An st.next.length cn)).setCell ⟨w.heap.size + 1 + 1, 2, none⟩ (.slice Am st.next.length cm))) fun b hb _ => hoth b (by omega)
        have o3 := HM.out.step (w1 := (((wr.setCell ⟨w.heap.size + 1 + 1, 0, none⟩ (.slice a1 (allB a b).length n1)).setCell ⟨w.heap.size + 1 + 1, 1, none⟩ (.slice An st.next.length cn)).setCell ⟨w.heap.size + 1 + 1, 2, none⟩ (.slice Am st.next.length cm))) fun b hb _ => hoth b (by omega)
        exact ⟨(o1.lower hw3).mono fun b hb => Nat.le_trans hw3 hb, (o2.lower (Nat.le_trans hw3 hw5)).mono fun b hb => Nat.le_trans (Nat.le_trans hw3 hw5) hb.1, (o3.lower (Nat.le_trans hw3 hw5)).mono fun b hb => Nat.le_trans (Nat.le_trans hw3 hw5) hb.1⟩
      · exact (hBw3.trans (hBr3.mono hBw3.size)).trans (hBF _ (by omega))
end Go.Proofs
