/- awake: the walk. -/
import Derived.Test.YtmfijgigfianeaaGreatGrAwakeS
import Derived.Test.YtmfijgigfianeaaGreatGrRounds
import Derived.Lib.SmallJoins
set_option linter.unusedVariables false
set_option linter.unusedSimpArgs false
namespace Rp
open Go Go.RowKit Go.Proofs
/-- An automaton that is laid and read. -/
structure LdS (W : World) (g : Nat) (h : DA) (d : Dfa) : Prop where
  r : W.heap[g]? = some (.cells (dfaC h d) 25 (0, 0))
  p : DfaR W (fun _ => True) h d
theorem LdS.below {W W' : World} {g : Nat} {h : DA} {d : Dfa} (m : LdS W g h d) (hB : Below W.heap.size W W') : LdS W' g h d := ⟨(hB.block _ (Array.getElem?_eq_some_iff.1 m.r).1).trans m.r, m.p.below hB⟩
theorem LdS.of {w : World} {base : Nat} {h : DA} {d : Dfa} (o : DfaO w base h d) : LdS (w.alloc (.cells (dfaC h d) 25)) w.heap.size h d :=
  ⟨World.alloc_heap_new w _, ((DfaO.reads o).mono fun _ _ => trivial).below ((Below.refl _ _).alloc (Nat.le_refl _) _)⟩
theorem lit_bytes (w : World) (e : TypeId) (xs : List UInt8) : Kbyte.S (w.alloc (.cells (xs.map byteV).toArray e (xs.length, xs.length + 1))) (fun _ => True) (some ⟨w.heap.size, 0, none⟩) xs := fun hx =>
  ⟨w.heap.size, 0, xs.map byteV, rfl, trivial, by simp, reps_scal (enc := byteV) (ok := fun _ => True) (h1 := fun _ => rfl) (fun _ _ => trivial), fun j u hu => by
    rw [Nat.zero_add]
    exact cell_of_obj (World.alloc_heap_new w _) (by simpa using hu)⟩
theorem lit_bytes0 (w : World) (e : TypeId) (xs : List UInt8) : Kbyte.S (w.alloc (.cells (xs.map byteV).toArray e)) (fun _ => True) (some ⟨w.heap.size, 0, none⟩) xs := fun hx =>
  ⟨w.heap.size, 0, xs.map byteV, rfl, trivial, by simp, reps_scal (enc := byteV) (ok := fun _ => True) (h1 := fun _ => rfl) (fun _ _ => trivial), fun j u hu => by
    rw [Nat.zero_add]
    exact cell_of_obj (World.alloc_heap_new w _) (by simpa using hu)⟩
theorem lit_rows2 (w : World) (e : TypeId) (x0 x1 : List Int) (v0 v1 : Value) (h0 : Kints.R w (fun _ => True) x0 [v0]) (h1 : Kints.R w (fun _ => True) x1 [v1]) : Kints.S (w.alloc (.cells #[v0, v1] e)) (fun _ => True) (some ⟨w.heap.size, 0, none⟩) [x0, x1] := fun _ =>
  ⟨w.heap.size, 0, [v0, v1], rfl, trivial, by simp, ⟨[v0], [v1], rfl, rfl, Kd.below h0 ((Below.refl _ _).alloc (Nat.le_refl _) _), [v1], [], rfl, rfl, Kd.below h1 ((Below.refl _ _).alloc (Nat.le_refl _) _), rfl⟩, fun j u hu => by
    rw [Nat.zero_add]
    exact cell_of_obj (World.alloc_heap_new w _) (by simpa using hu)⟩
theorem lit_row (w : World) (e : TypeId) (xs : List Int) (hx : ∀ x ∈ xs, inI64 x) (hn : xs.length ≤ 9223372036854775807) : Kints.R (w.alloc (.cells (xs.map (Value.int .i64)).toArray e)) (fun _ => True) xs [.slice (some ⟨w.heap.size, 0, none⟩) xs.length xs.length] :=
  (lit_ints w e xs w.heap.size (fun _ => True) hx hn (Nat.le_refl _) trivial).slice
theorem an_laid (y : World) (e1 e2 e3 : TypeId) :
    LdS (((((((y.alloc (.cells #[u64 (wd (~~~ letS [97, 98]) 0), u64 (wd (~~~ letS [97, 98]) 1), u64 (wd (~~~ letS [97, 98]) 2), u64 (wd (~~~ letS [97, 98]) 3), u64 (wd (letS [97, 98]) 0), u64 (wd (letS [97, 98]) 1), u64 (wd (letS [97, 98]) 2), u64 (wd (letS [97, 98]) 3)] e1)).alloc (.cells #[.int .i64 1, .int .i64 0] e2)).alloc (.cells #[.int .i64 1, .int .i64 1] e2)).alloc (.cells #[.slice (some ⟨y.heap.size + 1, 0, none⟩) 2 2, .slice (some ⟨y.heap.size + 1 + 1, 0, none⟩) 2 2] e3)).alloc (.cells #[.int .i64 0] e2)).alloc (.cells #[.slice (some ⟨y.heap.size + 1 + 1 + 1 + 1, 0, none⟩) 1 1, .slice none 0 0] e3)).alloc
      (.cells #[.slice (some ⟨y.heap.size, 0, none⟩) 2 2, .slice (some ⟨y.heap.size + 1 + 1 + 1, 0, none⟩) 2 2, .slice (some ⟨y.heap.size + 1 + 1 + 1 + 1 + 1, 0, none⟩) 2 2] 25)) (y.heap.size + 1 + 1 + 1 + 1 + 1 + 1) ⟨some ⟨y.heap.size, 0, none⟩, 2, some ⟨y.heap.size + 1 + 1 + 1, 0, none⟩, 2, some ⟨y.heap.size + 1 + 1 + 1 + 1 + 1, 0, none⟩, 2⟩ anD := by
  have hi : ∀ n : Int, n = 0 ∨ n = 1 → inI64 n := fun n h => by constructor <;> omega
  have k1 := (lit_two_sets y e1 (~~~ letS [97, 98]) (letS [97, 98]) y.heap.size (fun _ => True) (Nat.le_refl _) trivial).reads
  obtain ⟨A1, c1, f1, _, _, s1⟩ := k1
  obtain ⟨rfl, _, rfl⟩ := slice_inj f1
  obtain ⟨y1, hy1⟩ : ∃ x, x = y.alloc (.cells #[u64 (wd (~~~ letS [97, 98]) 0), u64 (wd (~~~ letS [97, 98]) 1), u64 (wd (~~~ letS [97, 98]) 2), u64 (wd (~~~ letS [97, 98]) 3), u64 (wd (letS [97, 98]) 0), u64 (wd (letS [97, 98]) 1), u64 (wd (letS [97, 98]) 2), u64 (wd (letS [97, 98]) 3)] e1) := ⟨_, rfl⟩
  have z1 : y1.heap.size = y.heap.size + 1 := by rw [hy1]; simp
  rw [← hy1] at s1 ⊢
  have r1 : Kints.R (y1.alloc (.cells #[.int .i64 1, .int .i64 0] e2)) (fun _ => True) [1, 0] [.slice (some ⟨y1.heap.size, 0, none⟩) 2 2] := lit_row y1 e2 [1, 0] (fun x hx => hi x (by simp at hx; omega)) (by simp)
  have s1 := S_below s1 ((Below.refl y1.heap.size y1).alloc (Nat.le_refl _) (.cells #[.int .i64 1, .int .i64 0] e2))
  obtain ⟨y2, hy2⟩ : ∃ x, x = y1.alloc (.cells #[.int .i64 1, .int .i64 0] e2) := ⟨_, rfl⟩
  have z2 : y2.heap.size = y1.heap.size + 1 := by rw [hy2]; simp
  rw [← hy2] at s1 r1 ⊢
  have hb3 : Below y2.heap.size y2 (y2.alloc (.cells #[.int .i64 1, .int .i64 1] e2)) := (Below.refl _ _).alloc (Nat.le_refl _) _
  have r2 : Kints.R (y2.alloc (.cells #[.int .i64 1, .int .i64 1] e2)) (fun _ => True) [1, 1] [.slice (some ⟨y2.heap.size, 0, none⟩) 2 2] := lit_row y2 e2 [1, 1] (fun x hx => hi x (by simp at hx; omega)) (by simp)
  have s1 := S_below s1 hb3
  have r1 := Kd.below r1 hb3
  obtain ⟨y3, hy3⟩ : ∃ x, x = y2.alloc (.cells #[.int .i64 1, .int .i64 1] e2) := ⟨_, rfl⟩
  have z3 : y3.heap.size = y2.heap.size + 1 := by rw [hy3]; simp
  rw [← hy3] at s1 r1 r2 ⊢
  have s2 := lit_rows2 y3 e3 [1, 0] [1, 1] _ _ r1 r2
  have s1 := S_below s1 ((Below.refl y3.heap.size y3).alloc (Nat.le_refl _) (.cells #[.slice (some ⟨y1.heap.size, 0, none⟩) 2 2, .slice (some ⟨y2.heap.size, 0, none⟩) 2 2] e3))
  rw [← z1, ← z2, ← z3]
  obtain ⟨y4, hy4⟩ : ∃ x, x = y3.alloc (.cells #[.slice (some ⟨y1.heap.size, 0, none⟩) 2 2, .slice (some ⟨y2.heap.size, 0, none⟩) 2 2] e3) := ⟨_, rfl⟩
  have z4 : y4.heap.size = y3.heap.size + 1 := by rw [hy4]; simp
  rw [← hy4] at s1 s2 ⊢
  rw [← z4]
  have hb5 : Below y4.heap.size y4 (y4.alloc (.cells #[.int .i64 0] e2)) := (Below.refl _ _).alloc (Nat.le_refl _) _
  have r3 : Kints.R (y4.alloc (.cells #[.int .i64 0] e2)) (fun _ => True) [0] [.slice (some ⟨y4.heap.size, 0, none⟩) 1 1] := lit_row y4 e2 [0] (fun x hx => hi x (by simp at hx; omega)) (by simp)
  have s1 := S_below s1 hb5
  have s2 := S_below s2 hb5
  obtain ⟨y5, hy5⟩ : ∃ x, x = y4.alloc (.cells #[.int .i64 0] e2) := ⟨_, rfl⟩
  have z5 : y5.heap.size = y4.heap.size + 1 := by rw [hy5]; simp
  rw [← hy5] at s1 s2 r3 ⊢
  rw [← z5]
  have r4 : Kints.R y5 (fun _ => True) [] [.slice none 0 0] := ⟨none, 0, rfl, by decide, by decide, fun h => absurd rfl h⟩
  have s3 := lit_rows2 y5 e3 [0] [] _ _ r3 r4
  have hb6 : Below y5.heap.size y5 (y5.alloc (.cells #[.slice (some ⟨y4.heap.size, 0, none⟩) 1 1, .slice none 0 0] e3)) := (Below.refl _ _).alloc (Nat.le_refl _) _
  have s1 := S_below s1 hb6
  have s2 := S_below s2 hb6
  obtain ⟨y6, hy6⟩ : ∃ x, x = y5.alloc (.cells #[.slice (some ⟨y4.heap.size, 0, none⟩) 1 1, .slice none 0 0] e3) := ⟨_, rfl⟩
  have z6 : y6.heap.size = y5.heap.size + 1 := by rw [hy6]; simp
  rw [← hy6] at s1 s2 s3 ⊢
  rw [← z6]
  have hb7 : Below y6.heap.size y6 (y6.alloc (.cells #[.slice (some ⟨y.heap.size, 0, none⟩) 2 2, .slice (some ⟨y3.heap.size, 0, none⟩) 2 2, .slice (some ⟨y5.heap.size, 0, none⟩) 2 2] 25)) := (Below.refl _ _).alloc (Nat.le_refl _) _
  have h2 : 2 ≤ 9223372036854775807 := by omega
  exact ⟨World.alloc_heap_new y6 _, ⟨S_below s1 hb7, S_below s2 hb7, S_below s3 hb7, Nat.le_refl 2, Nat.le_refl 2, Nat.le_refl 2, h2, h2, h2⟩⟩
end Rp
namespace Go.Proofs
open Go.RowKit Go.Shelf Rp Go.Maps
attribute [local go_sem] Oper.semAt_some
set_option maxRecDepth 100000 in
set_option maxHeartbeats 12800000 in
theorem c_awake (w : World) : Calls Tryz.prog 8 #[] w fun e w' => e = .returned (.bool true) ∧ Below w.heap.size w w' := by
  have hr1 := fun W' => c_rounds 1 W' (by decide) (by decide)
  have hr2 := fun W' => c_rounds 2 W' (by decide) (by decide)
  have e1 : ((1 : Nat) : Int) = 1 := rfl
  have e2 : ((2 : Nat) : Int) = 2 := rfl
  rw [e1] at hr1
  rw [e2] at hr2
  clear e1 e2
  go_enter Tryz.func8, Tryz.ntmps8
  go_upto_region 2 with (first
    | (go_at_call 12; with_reducible refine (hr1 w).mono ?_; rintro e w1 ⟨h1, rfl, hO1, hB1⟩)
    | (go_at_call 12; with_reducible refine (hr2 w1).mono ?_; rintro e w2 ⟨h2, rfl, hO2, hB2⟩))
  refine wp_name fun W2 hW2 => ?_
  have L1 : LdS W2 w2.heap.size h1 (rdD 1) := by
    rw [← hW2]; exact (LdS.of (hO1.below hB2 |>.lower (Nat.le_refl _))).below ((Below.refl _ _).alloc (Nat.le_refl _) _)
  have L2 : LdS W2 (w2.heap.size + 1) h2 (rdD 2) := by
    rw [← hW2]
    have := LdS.of (hO2.below ((Below.refl _ w2).alloc (Nat.le_refl _) (.cells (dfaC h1 (rdD 1)) 25)))
    rwa [World.size_alloc] at this
  have hBw : Below w.heap.size w W2 := by
    rw [← hW2]
    exact ((hB1.trans (hB2.mono hB1.size)).alloc (Nat.le_trans hB1.size hB2.size) _).alloc (by simp; have := hB1.size; have := hB2.size; omega) _
  clear hW2 hO1 hO2 hB1 hB2 hr1 hr2
  obtain ⟨DA, a1, a2, a3, a4⟩ := and_all
  obtain ⟨DL, l1, l2, l3⟩ := less_all
  obtain ⟨DB, k1, k2⟩ := back_all
  obtain ⟨DS, s1, s2⟩ := self_all
  obtain ⟨DN, n1, n2, n3⟩ := not_all
  have HA := Lib.hid (And.intro a1 (And.intro a2 (And.intro a3 a4)))
  have HL := Lib.hid (And.intro l1 (And.intro l2 l3))
  have HK := Lib.hid (And.intro k1 k2)
  have HS := Lib.hid (And.intro s1 s2)
  have HN := Lib.hid (And.intro n1 (And.intro n2 n3))
  clear a1 a2 a3 a4 l1 l2 l3 k1 k2 s1 s2 n1 n2 n3
  obtain ⟨g1, hg1⟩ : ∃ g, g = w2.heap.size := ⟨_, rfl⟩
  obtain ⟨g2, hg2⟩ : ∃ g, g = w2.heap.size + 1 := ⟨_, rfl⟩
  rw [← hg1] at L1
  rw [← hg2] at L2
  rw [← hg2, ← hg1]
  have hg1l : g1 < W2.heap.size := (Array.getElem?_eq_some_iff.1 L1.r).1
  have hg2l : g2 < W2.heap.size := (Array.getElem?_eq_some_iff.1 L2.r).1
  clear hg1 hg2
  have HBw := Lib.hid hBw
  clear hBw
  generalize rdD 1 = D1 at *
  generalize rdD 2 = D2 at *
  obtain ⟨P1, p1, P2, p2, P3, p3⟩ := h1
  obtain ⟨Q1, q1, Q2, q2, Q3, q3⟩ := h2
  have e1 : ((1 : Nat) : Int) = 1 := rfl
  have e3 : ((3 : Nat) : Int) = 3 := rfl
  have hoA := c_of _ _ D1 D2 1 99 _ _ W2 (by decide) L1.p L2.p
  have hoL := fun W' (hW' : Below W2.heap.size W2 W') => c_of _ _ D1 D2 3 99 _ _ W' (by decide) (L1.below hW').p (L2.below hW').p
  rw [HA.out.1, e1] at hoA
  rw [HL.out.1, e3] at hoL
  simp only [dfaV, dfaC] at hoA hoL ⊢
  obtain ⟨a0, a1, a2⟩ := cells3 L1.r
  obtain ⟨b0, b1, b2⟩ := cells3 L2.r
  dsimp only at a0 a1 a2 b0 b1 b2
  have HL1 := Lib.hid L1
  have HL2 := Lib.hid L2
  clear L1 L2 e1 e3
  go_upto_region 3 with (go_at_call 19; refine hoA.mono ?_; rintro e w3 ⟨h3, rfl, hO3, hB3⟩; obtain ⟨R1, r1, R2, r2, R3, r3⟩ := h3; (try dsimp only))
  refine wp_name fun W3 hW3 => ?_
  have L3 : LdS W3 w3.heap.size ⟨R1, r1, R2, r2, R3, r3⟩ DA := by rw [← hW3]; exact LdS.of hO3
  have hB23 : Below W2.heap.size W2 W3 := by rw [← hW3]; exact hB3.alloc hB3.size _
  obtain ⟨g3, hg3⟩ : ∃ g, g = w3.heap.size := ⟨_, rfl⟩
  rw [← hg3] at L3 ⊢
  clear hW3 hO3 hB3 hg3 a0 a1 a2 b0 b1 b2 hoA
  have HL1 := Lib.hid (HL1.out.below hB23)
  have HL2 := Lib.hid (HL2.out.below hB23)
  have HBw := Lib.hid (HBw.out.trans (hB23.mono HBw.out.size))
  have hoL := hoL W3 hB23
  obtain ⟨a0, a1, a2⟩ := cells3 HL1.out.r
  obtain ⟨b0, b1, b2⟩ := cells3 HL2.out.r
  dsimp only at a0 a1 a2 b0 b1 b2
  have HL3 := Lib.hid L3
  clear L3 hB23
  go_upto_region 4 with (go_at_call 19; refine hoL.mono ?_; rintro e w4 ⟨h5, rfl, hO5, hB5⟩; obtain ⟨T1, t1, T2, t2, T3, t3⟩ := h5; (try dsimp only))
  refine wp_name fun W4 hW4 => ?_
  have L5 : LdS W4 w4.heap.size ⟨T1, t1, T2, t2, T3, t3⟩ DL := by rw [← hW4]; exact LdS.of hO5
  have hB34 : Below W3.heap.size W3 W4 := by rw [← hW4]; exact hB5.alloc hB5.size _
  obtain ⟨g5, hg5⟩ : ∃ g, g = w4.heap.size := ⟨_, rfl⟩
  rw [← hg5] at L5 ⊢
  clear hW4 hO5 hB5 hg5 a0 a1 a2 b0 b1 b2 hoL
  have HL1 := Lib.hid (HL1.out.below hB34)
  have HL2 := Lib.hid (HL2.out.below hB34)
  have HL3 := Lib.hid (HL3.out.below hB34)
  have HBw := Lib.hid (HBw.out.trans (hB34.mono HBw.out.size))
  have HL5 := Lib.hid L5
  clear L5 hB34
  obtain ⟨ms, hms⟩ : ∃ ms, DA.marks.getD (runD DA 0 [97, 97]) [] = ms := ⟨_, rfl⟩
  obtain ⟨mt, hmt⟩ : ∃ ms, DA.marks.getD (runD DA 0 [97]) [] = ms := ⟨_, rfl⟩
  have hm1 : ms.length = 1 := by rw [← hms]; exact HA.out.2.2.1
  have hm2 : mt.length = 0 := by rw [← hmt]; exact HA.out.2.2.2
  have hBa : Below W4.heap.size W4 (W4.alloc (.cells #[.int .u8 97, .int .u8 97] 5 (2, 3))) := (Below.refl _ _).alloc (Nat.le_refl _) _
  have hma := c_marks R1 R2 R3 r1 r2 r3 DA (some ⟨W4.heap.size, 0, none⟩) 2 [97, 97] _ _ (W4.alloc (.cells #[.int .u8 97, .int .u8 97] 5 (2, 3))) (HL3.out.below hBa).p HA.out.2.1 (lit_bytes W4 5 [97, 97]) (by decide)
  rw [hms] at hma
  obtain ⟨a0, a1, a2⟩ := cells3 HL3.out.r
  dsimp only at a0 a1 a2
  have hcs := Go.Joins.run_convert_bytes_const_at (P := Tryz.prog) W4 47 5 #[.int .u8 97, .int .u8 97] 2 2 W4.heap.size rfl Tryz.underlying47 Tryz.underlying5
  go_upto_region 5 with (go_at_call 25; refine hma.mono ?_; rintro e w5 ⟨v7, rfl, hO7, hB5⟩; obtain ⟨A7, c7, rfl, -, -, -⟩ := hO7.reads; (try dsimp only))
  have hB45 := hBa.trans (hB5.mono hBa.size)
  have HL1 := Lib.hid (HL1.out.below hB45)
  have HL2 := Lib.hid (HL2.out.below hB45)
  have HL3 := Lib.hid (HL3.out.below hB45)
  have HL5 := Lib.hid (HL5.out.below hB45)
  have HBw := Lib.hid (HBw.out.trans (hB45.mono HBw.out.size))
  clear hB45 hB5 hO7 a0 a1 a2 hma hBa hms
  have hBa : Below w5.heap.size w5 (w5.alloc (.cells #[.int .u8 97] 5 (1, 2))) := (Below.refl _ _).alloc (Nat.le_refl _) _
  have hma := c_marks R1 R2 R3 r1 r2 r3 DA (some ⟨w5.heap.size, 0, none⟩) 1 [97] _ _ (w5.alloc (.cells #[.int .u8 97] 5 (1, 2))) (HL3.out.below hBa).p HA.out.2.1 (lit_bytes w5 5 [97]) (by decide)
  rw [hmt] at hma
  obtain ⟨a0, a1, a2⟩ := cells3 HL3.out.r
  dsimp only at a0 a1 a2
  have hcs := Go.Joins.run_convert_bytes_const_at (P := Tryz.prog) w5 47 5 #[.int .u8 97] 1 1 w5.heap.size rfl Tryz.underlying47 Tryz.underlying5
  go_upto_region 6 with (go_at_call 25; refine hma.mono ?_; rintro e w6 ⟨v9, rfl, hO9, hB6⟩; obtain ⟨A9, c9, rfl, -, -, -⟩ := hO9.reads; (try dsimp only))
  have hB56 := hBa.trans (hB6.mono hBa.size)
  have HL1 := Lib.hid (HL1.out.below hB56)
  have HL2 := Lib.hid (HL2.out.below hB56)
  have HL5 := Lib.hid (HL5.out.below hB56)
  have HBw := Lib.hid (HBw.out.trans (hB56.mono HBw.out.size))
  clear hB56 hB6 hO9 a0 a1 a2 hma hBa hmt
  have hfi := c_pFirstA ⟨T1, t1, T2, t2, T3, t3⟩ DL _ w6 HL5.out.p
  simp only [dfaV, dfaC] at hfi
  obtain ⟨a0, a1, a2⟩ := cells3 HL5.out.r
  dsimp only at a0 a1 a2
  go_upto_region 7 with (go_at_call 26; refine hfi.mono ?_; rintro e w7 ⟨bs, v11, ok, er, hF, rfl, hO11, hB7⟩; obtain ⟨rfl, rfl, rfl⟩ := firstR_some HL.out.2.1 HL.out.2.2 hF; obtain ⟨A11, c11, rfl, -, -, sb⟩ := hO11.reads; (try dsimp only))
  have HL1 := Lib.hid (HL1.out.below hB7)
  have HL2 := Lib.hid (HL2.out.below hB7)
  have HBw := Lib.hid (HBw.out.trans (hB7.mono HBw.out.size))
  have hcv : (convert 47 9 (.slice A11 1 c11)).run Tryz.prog w7 = .ok (.string ⟨#[97]⟩) w7 := conv_bytes (P := Tryz.prog) 47 9 5 Tryz.underlying47 Tryz.underlying5 Tryz.underlying9 w7 _ A11 [97] c11 sb
  clear hB7 hO11 a0 a1 a2 hfi hF sb
  go_upto_region 9 with (fail)
  obtain ⟨a0, a1, a2⟩ := cells3 HL1.out.r
  obtain ⟨b0, b1, b2⟩ := cells3 HL2.out.r
  dsimp only at a0 a1 a2 b0 b1 b2
  have hw1 := c_Within _ _ D2 D1 99 _ _ w7 HL2.out.p HL1.out.p
  have HW2 := Lib.hid (fun W' (hW' : Below w7.heap.size w7 W') => c_Within _ _ D1 D2 99 _ _ W' (HL1.out.below hW').p (HL2.out.below hW').p)
  simp only [dfaV, dfaC] at hw1 HW2
  go_upto_region 11 with (first
    | (go_at_call 20; with_reducible refine hw1.mono ?_; rintro e w8 ⟨bs, v14, ok, er, hP, rfl, hO14, hB8⟩; obtain ⟨rfl, rfl, rfl⟩ := parts_none HK.out.1 HK.out.2 hP
       obtain ⟨c0, c1, c2⟩ := cells3 (HL1.out.below hB8).r; obtain ⟨d0, d1, d2⟩ := cells3 (HL2.out.below hB8).r; dsimp only at c0 c1 c2 d0 d1 d2)
    | (go_at_call 20; with_reducible refine (HW2.out w8 hB8).mono ?_; rintro e w9 ⟨bs, v16, ok, er, hP2, rfl, hO16, hB9⟩; obtain ⟨rfl, rfl, rfl⟩ := parts_some HL.out.1 HL.out.2.2 hP2; obtain ⟨A16, c16, rfl, -, -, sb16⟩ := hO16.reads))
  have hB79 := hB8.trans (hB9.mono hB8.size)
  have HL1 := Lib.hid (HL1.out.below hB79)
  have HBw := Lib.hid (HBw.out.trans (hB79.mono HBw.out.size))
  have HS16 := Lib.hid sb16
  clear hB79 hB8 hB9 hO14 hO16 sb16 a0 a1 a2 b0 b1 b2 c0 c1 c2 d0 d1 d2 hw1 hP hP2 hcv hcs
  have hnt := c_pNot _ D1 _ w9 HL1.out.p
  rw [HN.out.1] at hnt
  simp only [dfaV, dfaC] at hnt
  obtain ⟨a0, a1, a2⟩ := cells3 HL1.out.r
  dsimp only at a0 a1 a2
  go_upto_region 12 with (go_at_call 27; refine hnt.mono ?_; rintro e w10 ⟨h18, rfl, hO18, hB10⟩; obtain ⟨U1, u1x, U2, u2x, U3, u3x⟩ := h18; (try dsimp only))
  refine wp_name fun W10 hW10 => ?_
  have L18 : LdS W10 w10.heap.size ⟨U1, u1x, U2, u2x, U3, u3x⟩ DN := by rw [← hW10]; exact LdS.of hO18
  have hB910 : Below w9.heap.size w9 W10 := by rw [← hW10]; exact hB10.alloc hB10.size _
  obtain ⟨g18, hg18⟩ : ∃ g, g = w10.heap.size := ⟨_, rfl⟩
  rw [← hg18] at L18 ⊢
  have HL1 := Lib.hid (HL1.out.below hB910)
  have HBw := Lib.hid (HBw.out.trans (hB910.mono HBw.out.size))
  have HS16 := Lib.hid (S_below HS16.out hB910)
  clear hW10 hO18 hB10 hg18 hB910 a0 a1 a2 hnt
  have hfi := c_pFirstA _ DN _ W10 L18.p
  have HEq := Lib.hid (fun W' (hW' : Below W10.heap.size W10 W') => c_Equal _ _ D1 D1 99 _ _ W' (HL1.out.below hW').p (HL1.out.below hW').p)
  simp only [dfaV, dfaC] at hfi HEq
  obtain ⟨a0, a1, a2⟩ := cells3 L18.r
  dsimp only at a0 a1 a2
  clear L18
  go_upto_region 14 with (first
    | (go_at_call 26; refine hfi.mono ?_; rintro e w11 ⟨bs, v19, ok, er, hF, rfl, hO19, hB11⟩; obtain ⟨rfl, rfl, rfl⟩ := firstR_some HN.out.2.1 HN.out.2.2 hF; obtain ⟨A19, c19, rfl, -, -, sb19⟩ := hO19.reads
       obtain ⟨c0, c1, c2⟩ := cells3 (HL1.out.below hB11).r; dsimp only at c0 c1 c2)
    | (go_at_call 21; with_reducible refine (HEq.out w11 hB11).mono ?_; rintro e w12 ⟨bs, v21, ok, er, hP3, rfl, hO21, hB12⟩; obtain ⟨rfl, rfl, rfl⟩ := parts_none HS.out.1 HS.out.2 hP3))
  have hB1012 := hB11.trans (hB12.mono hB11.size)
  have hS16 := S_below HS16.out hB1012
  have hS19 := S_below sb19 hB12
  have HBw := Lib.hid (HBw.out.trans (hB1012.mono HBw.out.size))
  clear hB11 hB12 hB1012 hO19 hO21 sb19 a0 a1 a2 c0 c1 c2 hfi hF hP3
  have hcv : (convert 47 9 (.slice A16 1 c16)).run Tryz.prog w12 = .ok (.string ⟨#[97]⟩) w12 := conv_bytes (P := Tryz.prog) 47 9 5 Tryz.underlying47 Tryz.underlying5 Tryz.underlying9 w12 _ A16 [97] c16 hS16
  have hBz : Below w12.heap.size w12 (w12.alloc (.cells #[.int .u8 0] 5)) := (Below.refl _ _).alloc (Nat.le_refl _) _
  have hbe := c_bytesEqual A19 (some ⟨w12.heap.size, 0, none⟩) c19 1 [0] [0] _ _ (w12.alloc (.cells #[.int .u8 0] 5)) (S_below hS19 hBz) (lit_bytes0 w12 5 [0])
  simp only [decide_true] at hbe
  go_upto_region 16 with (go_at_call 22; refine hbe.mono ?_; rintro e w13 ⟨rfl, rfl⟩)
  have HBw := Lib.hid (HBw.out.trans (hBz.mono HBw.out.size))
  clear hbe hS16 hS19 hcv hBz
  generalize w12.alloc (.cells #[.int .u8 0] 5) = W13 at *
  have hot := fun W' => c_others [97, 98] W' (by decide)
  have hlt := fun W' => c_letter [97, 98] W' (by decide)
  go_upto_region 17 with (first
    | (go_at_call 10; refine (hot W13).mono ?_; rintro e w14 ⟨rfl, hB14⟩)
    | (go_at_call 11; refine (hlt w14).mono ?_; rintro e w15 ⟨rfl, hB15⟩))
  refine wp_name fun W16 hW16 => ?_
  have L16 := an_laid w15 33 3 36
  rw [hW16] at L16
  have hB16 : Below w15.heap.size w15 W16 := by
    rw [← hW16]
    iterate 7 refine Below.alloc ?_ (by (repeat rw [World.size_alloc]); omega) _
    exact Below.refl _ _
  have hB16 := (hB14.trans (hB15.mono hB14.size)).trans (hB16.mono (Nat.le_trans hB14.size hB15.size))
  have HBw := Lib.hid (HBw.out.trans (hB16.mono HBw.out.size))
  obtain ⟨g23, hg23⟩ : ∃ g, g = w15.heap.size + 1 + 1 + 1 + 1 + 1 + 1 := ⟨_, rfl⟩
  rw [← hg23] at L16 ⊢
  obtain ⟨hh, hhh⟩ : ∃ h : _root_.Rp.DA, h = ⟨some ⟨w15.heap.size, 0, none⟩, 2, some ⟨w15.heap.size + 1 + 1 + 1, 0, none⟩, 2, some ⟨w15.heap.size + 1 + 1 + 1 + 1 + 1, 0, none⟩, 2⟩ := ⟨_, rfl⟩
  rw [← hhh] at L16
  clear hhh hg23 hB16 hB14 hB15 hot hlt hW16
  obtain ⟨V1, v1x, V2, v2x, V3, v3x⟩ := hh
  have HC := Lib.hid (fun W' most (hW' : Below W16.heap.size W16 W') => c_pCount _ anD 3 most _ W' (L16.below hW').p)
  have hc1 := HC.out W16 100 (Below.refl _ _)
  rw [an_count 100 (by decide) (by decide)] at hc1
  have HC := Lib.hid (fun W' (hW' : Below W16.heap.size W16 W') => HC.out W' 5 hW')
  rw [an_count 5 (by decide) (by decide)] at HC
  have e8 : ((min 8 100 : Int)) = 8 := rfl
  have e5 : ((min 8 5 : Int)) = 5 := rfl
  rw [e8] at hc1
  rw [e5] at HC
  simp only [dfaV, dfaC] at hc1 HC
  have HL := Lib.hid (fun W' (hW' : Below W16.heap.size W16 W') => cells3 (L16.below hW').r)
  obtain ⟨a0, a1, a2⟩ := cells3 L16.r
  dsimp only at a0 a1 a2
  clear L16
  have hnm := fun W' => c_name 3 W' (by decide)
  have e3 : ((3 : Nat) : Int) = 3 := rfl
  rw [e3] at hnm
  go_upto_region 18 with (go_at_call 28; with_reducible refine hc1.mono ?_; rintro e w16 ⟨rfl, hB17⟩)
  have hc2 := HC.out w16 hB17
  obtain ⟨a0, a1, a2⟩ := HL.out w16 hB17
  clear hc1
  go_upto_region 19 with (go_at_call 28; with_reducible refine hc2.mono ?_; rintro e w17 ⟨rfl, hB18⟩)
  clear hc2 a0 a1 a2
  go_wp2_with (go_at_call 24; refine (hnm w17).mono ?_; rintro e w18 ⟨rfl, hE19⟩)
  have hb : ((nameB 3).toList == [108, 101, 115, 115]) = true := by decide +kernel
  rw [hb]
  have hB16 := hB17.trans ((hB18.trans (hE19.below.mono hB18.size)).mono hB17.size)
  have hBw := HBw.out.trans (hB16.mono HBw.out.size)
  clear hB16 hB17 hB18 hE19
  go_ret
  exact ⟨rfl, hBw⟩
end Go.Proofs
