/- The alphabet: Of, and what is asked of it. slices.Equal of sets; is there a number out of range. Automata, and which are right. -/
import Derived.Test.YtmfijgigfianeaaGreatGrAlph
section
set_option linter.unusedVariables false
set_option linter.unusedSimpArgs false
namespace Rp
open Go Go.RowKit
theorem Alph.step {w w' : World} {F : Nat → Prop} {b : Nat} {l : List BSet} (h : Alph w F b l) (hm : ∀ k, F k → k < w.heap.size → w'.heap[k]? = w.heap[k]?) : Alph w' F b l := by
  obtain ⟨hF, cs, A, cap, hH, hT, hS, h1, h2⟩ := h
  exact ⟨hF, cs, A, cap, (hm b hF (Array.getElem?_eq_some_iff.1 hH).1).trans hH, hT, hS.step hm, h1, h2⟩
theorem Alph.below {w w' : World} {F : Nat → Prop} {b : Nat} {l : List BSet} (h : Alph w F b l) (hb : Below w.heap.size w w') : Alph w' F b l := h.step fun k _ hk => hb.block k hk
theorem Alph.mono {w : World} {F G : Nat → Prop} {b : Nat} {l : List BSet} (h : Alph w F b l) (hm : ∀ k, F k → G k) : Alph w G b l := by
  obtain ⟨hF, cs, A, cap, hH, hT, hS, h1, h2⟩ := h
  exact ⟨hm _ hF, cs, A, cap, hH, hT, hS.mono hm, h1, h2⟩
theorem Alph.at {w : World} {F : Nat → Prop} {b : Nat} {l : List BSet} (h : Alph w F b l) : F b ∧ b < w.heap.size ∧ (∀ c, c < 256 → w.cell? ⟨b, c, none⟩ = some (.int .u8 (tabF (pairsOf l) c : Int))) ∧ ∃ A cap, w.cell? ⟨b, 256, none⟩ = some (.slice A l.length cap) ∧ Kset.S w F A l ∧ l.length ≤ cap ∧ cap ≤ 9223372036854775807 := by
  obtain ⟨hF, cs, A, cap, hH, hT, hS, h1, h2⟩ := h
  exact ⟨hF, (Array.getElem?_eq_some_iff.1 hH).1, fun c hc => (cell_of_row w b c _ _ _ hH).trans (hT.2.1 c hc), A, cap, (cell_of_row w b 256 _ _ _ hH).trans hT.2.2, hS, h1, h2⟩
end Rp
namespace Go.Proofs
open Go.RowKit Go.Shelf Rp
attribute [local go_sem] Oper.semAt_some
theorem c_alphOf (A : Option Addr) (cap : Nat) (l : List BSet) (F : Nat → Prop) (w : World) (hS : Kset.S w F A l) (hlc : l.length ≤ cap) (hcm : cap ≤ 9223372036854775807) :
    Calls Tryz.prog 69 #[.slice A l.length cap] w fun e w' => ∃ b, e = .returned (.pointer (some ⟨b, 0, none⟩)) ∧ Alph w' (fun k => w.heap.size ≤ k) b (partsB l) ∧ Below w.heap.size w w' := by
  have hp := c_parts A cap l F w hS hlc hcm
  generalize partsB l = ps at *
  go_enter Tryz.func69, Tryz.ntmps69
  go_wp2_with (go_at_call 66; refine hp.mono ?_; rintro e w1 ⟨v, rfl, hO, hb⟩)
  obtain ⟨A1, cap1, rfl, h1, h2, hS1⟩ := hO.reads
  clear hO
  go_wp2_with (go_at_call 84; refine (c_made A1 cap1 ps _ w1 hS1 h1 h2).mono ?_; rintro e w2 ⟨rfl, ⟨cs, hH, hT⟩, hb2⟩)
  go_ret
  exact ⟨_, rfl, ⟨hb.size, cs, A1, cap1, hH, hT, hS1.step (fun b _ hl => hb2.block b hl), h1, h2⟩, hb.trans (hb2.mono hb.size)⟩
theorem c_alphNone (b : Nat) (A : Option Addr) (n cap : Nat) (w : World) (hc : w.cell? ⟨b, 256, none⟩ = some (.slice A n cap)) (hn : 0 < n) :
    Calls Tryz.prog 85 #[.pointer (some ⟨b, 0, none⟩)] w fun e w' => e = .returned (.bool false) ∧ w' = w := by
  have hn0 : ¬ (n : Int) = 0 := by omega
  have hne : ((n : Int) == 0) = false := by simp; omega
  go_enter Tryz.func85, Tryz.ntmps85
  go_wp2
  go_ret
  exact ⟨rfl, rfl⟩
theorem c_alphLen (b : Nat) (A : Option Addr) (n cap : Nat) (w : World) (hc : w.cell? ⟨b, 256, none⟩ = some (.slice A n cap)) (hn : 0 < n) :
    Calls Tryz.prog 71 #[.pointer (some ⟨b, 0, none⟩)] w fun e w' => e = .returned (.int .i64 (n : Int)) ∧ w' = w := by
  go_enter Tryz.func71, Tryz.ntmps71
  go_wp2_with (go_at_call 85; refine (c_alphNone b A n cap _ hc hn).mono ?_; rintro e w1 ⟨rfl, rfl⟩)
  go_ret
  exact ⟨rfl, rfl⟩
theorem c_alphIs (b : Nat) (A : Option Addr) (n cap k : Nat) (w : World) (hc : w.cell? ⟨b, 256, none⟩ = some (.slice A n cap)) (hk : k < n) :
    Calls Tryz.prog 86 #[.pointer (some ⟨b, 0, none⟩), .int .i64 (k : Int)] w fun e w' => e = .returned (.bool true) ∧ w' = w := by
  have hk0 : (0 : Int) ≤ k := by omega
  have hk1 : (k : Int) < n := by omega
  go_enter Tryz.func86, Tryz.ntmps86
  go_wp2_with (go_at_call 85; refine (c_alphNone b A n cap _ hc (by omega)).mono ?_; rintro e w1 ⟨rfl, rfl⟩)
  go_ret
  exact ⟨by simp, rfl⟩
theorem c_alphClass (b : Nat) (A : Option Addr) (n cap c t : Nat) (w : World) (hc : w.cell? ⟨b, 256, none⟩ = some (.slice A n cap)) (hn : 0 < n) (hlt : c < 256) (ht : w.cell? ⟨b, c, none⟩ = some (.int .u8 (t : Int))) (htl : t < 256) :
    Calls Tryz.prog 74 #[.pointer (some ⟨b, 0, none⟩), .int .u8 (c : Int)] w fun e w' => e = .returned (.int .i64 (t : Int)) ∧ w' = w := by
  have hc0 : (0 : Int) ≤ c := by omega
  have hc1 : (c : Int) < 256 := by omega
  go_enter Tryz.func74, Tryz.ntmps74
  go_wp2_with (go_at_call 85; refine (c_alphNone b A n cap _ hc hn).mono ?_; rintro e w1 ⟨rfl, rfl⟩)
  go_ret
  exact ⟨by go_num, rfl⟩
theorem c_alphSet (b k : Nat) (l : List BSet) (F : Nat → Prop) (w : World) (h : Alph w F b l) (hk : k < l.length) :
    Calls Tryz.prog 72 #[.pointer (some ⟨b, 0, none⟩), .int .i64 (k : Int)] w fun e w' => e = .returned (.tuple #[setV l[k], .bool true]) ∧ Ext w w' := by
  obtain ⟨hF, hbl, htab, A, cap, hc, hS, h1, h2⟩ := h.at
  obtain ⟨g, off, rfl, hFg, hgl, e0, e1, e2, e3⟩ := S_set hS hk
  clear htab hS h
  generalize hx : l[k] = x at *
  have HX := Lib.hid hx
  have hk0 : (0 : Int) ≤ k := by omega
  have hk1 : (k : Int) < l.length := by omega
  clear hx
  go_enter Tryz.func72, Tryz.ntmps72
  have hca : ∀ o, (w.alloc o).cell? ⟨b, 256, none⟩ = some (.slice (some ⟨g, off, none⟩) l.length cap) := fun o => by go_simp
  go_wp2_with (go_at_call 86; refine (c_alphIs b _ l.length cap k _ (hca _) hk).mono ?_; rintro e w1 ⟨rfl, rfl⟩)
  exact bodyPost_ret (v := .tuple #[setV x, .bool true]) (by simp [results, Tryz.results72, go_sem]) rfl ⟨rfl, (Ext.refl _).alloc _⟩
theorem c_alphLeast (b k : Nat) (l : List BSet) (F : Nat → Prop) (w : World) (h : Alph w F b l) (hk : k < l.length) :
    Calls Tryz.prog 73 #[.pointer (some ⟨b, 0, none⟩), .int .i64 (k : Int)] w fun e w' => e = .returned (.tuple #[byteV (firstB l[k]).1, .bool (firstB l[k]).2]) ∧ Ext w w' := by
  have hs := c_alphSet b k l F w h hk
  generalize l[k] = x at *
  have hf := fun w' => c_first x w'
  generalize firstB x = fx at *
  clear h hk
  go_enter Tryz.func73, Tryz.ntmps73
  go_wp2_with (first | (go_at_call 72; refine hs.mono ?_; rintro e w1 ⟨rfl, h1⟩) | (go_at_call 53; refine (hf _).mono ?_; rintro e w2 ⟨rfl, h2⟩))
  exact bodyPost_ret (v := .tuple #[byteV fx.1, .bool fx.2]) (by simp [results, Tryz.results73, go_sem]) rfl ⟨rfl, (h1.alloc _).trans h2⟩
set_option maxRecDepth 100000 in
theorem c_alphJoin (b1 b2 : Nat) (l1 l2 : List BSet) (F : Nat → Prop) (w : World) (h1 : Alph w F b1 l1) (h2 : Alph w F b2 l2) (hn1 : 0 < l1.length) (hn2 : 0 < l2.length) (hm : l1.length + l2.length ≤ 1000000) :
    Calls Tryz.prog 70 #[.pointer (some ⟨b1, 0, none⟩), .pointer (some ⟨b2, 0, none⟩)] w fun e w' => ∃ b, e = .returned (.pointer (some ⟨b, 0, none⟩)) ∧ Alph w' (fun k => w.heap.size ≤ k) b (partsB (l1 ++ l2)) ∧ Below w.heap.size w w' := by
  obtain ⟨_, hb1, _, A1, cap1, hc1, hS1, _, _⟩ := h1.at
  obtain ⟨_, hb2, _, A2, cap2, hc2, hS2, _, _⟩ := h2.at
  clear h1 h2
  have hne1 : l1 ≠ [] := fun e => by rw [e] at hn1; simp at hn1
  have hne2 : l2 ≠ [] := fun e => by rw [e] at hn2; simp at hn2
  go_enter Tryz.func70, Tryz.ntmps70
  go_wp2_with (first | (go_at_call 85; with_reducible refine (c_alphNone b1 A1 l1.length cap1 _ hc1 hn1).mono ?_; rintro e w1 ⟨rfl, rfl⟩) | (go_at_call 85; with_reducible refine (c_alphNone b2 A2 l2.length cap2 _ hc2 hn2).mono ?_; rintro e w1 ⟨rfl, rfl⟩))
  go_region_held3 (fun w' => (∀ b o, b < w1.heap.size → w'.cell? ⟨b, o, none⟩ = w1.cell? ⟨b, o, none⟩) ∧ (∀ b o, b < w1.heap.size → w'.frozen? ⟨b, o, none⟩ = w1.frozen? ⟨b, o, none⟩) ∧ Below w1.heap.size w1 w')
    (first | exact stay_start _ | exact stay_step ‹_› ((Below.refl _ _).alloc (Nat.le_refl _) _) | exact stay_mov ‹_› hM3 hr3 | exact stay_mov ‹_› hM hr | exact stay_step ‹_› hB4)
    ((first
      | (refine step_own_appendS Kset _ w1.heap.size rfl _ _ 22 33 (.agg #[.int .u64 0, .int .u64 0, .int .u64 0, .int .u64 0]) 32 rfl Tryz.underlying22 info_set rfl (by decide) (by decide) _ [] l1 A1 cap1 (fun k => w1.heap.size ≤ k) _ rfl rfl (hS1.step (fun b _ hl => Below.heap_alloc w1.drew _ b hl)) (fun _ _ h => h) (OwnS.fresh Kset _ w1.drew w1.heap.size _ (by simp) (by simp)) (by simp; omega) (by simp) (by simp; omega) ?_
         intro v2 w2 hO hM hv
         have hr : ∀ k, Value.ownBlock (.slice (some ⟨w1.heap.size, 0, none⟩) 0 0) = some k → w1.heap.size ≤ k := fun k hk => by simp [Value.ownBlock] at hk; omega
         have hB2 : Below w1.heap.size w1 w2 := Mov.below (((Below.refl _ w1).drew).alloc (by simp) _) hM (by simp) hr
         obtain ⟨g2, c2, rfl⟩ := hv hne1)
      | (refine step_own_appendS Kset _ w1.heap.size rfl _ _ 22 33 (.agg #[.int .u64 0, .int .u64 0, .int .u64 0, .int .u64 0]) 32 rfl Tryz.underlying22 info_set rfl (by decide) (by decide) _ ([] ++ l1) l2 A2 cap2 (fun k => w1.heap.size ≤ k) _ rfl rfl (hS2.step (fun b _ hl => hB2.block b hl)) (fun _ _ h => h) hO (fun k hk => Nat.le_trans hB2.size hk) hB2.size (by simp; omega) ?_
         intro v3 w3 hO3 hM3 hv3
         have hr3 := hO.1
         have hB3 : Below w1.heap.size w1 w3 := Mov.below hB2 hM3 hB2.size hr3
         obtain ⟨g3, c3, rfl⟩ := hv3 hne2
         obtain ⟨A3, cp3, he3, h31, h32, hS3⟩ := hO3.reads
         injection he3 with he31 he32 he33
         subst he31 he33
         have hof := c_alphOf _ _ _ _ w3 hS3 h31 h32
         simp only [List.nil_append, List.length_append] at hof)
      | ((with_reducible refine hof.mono ?_)
         rintro e w4 ⟨b, rfl, hAl, hB4⟩)))
  go_wp2
  go_ret
  exact ⟨b, rfl, hAl.mono (fun k hk => Nat.le_trans hB3.size hk), hB3.trans (hB4.mono hB3.size)⟩
end Go.Proofs
end

section
set_option linter.unusedVariables false
set_option linter.unusedSimpArgs false
namespace Rp
theorem take_eq_step {α : Type} {l1 l2 : List α} {i : Nat} (h1 : i < l1.length) (h2 : i < l2.length) (h : l1.take i = l2.take i) : l1.take (i + 1) = l2.take (i + 1) ↔ l1[i] = l2[i] := by
  rw [List.take_add_one, List.take_add_one, List.getElem?_eq_getElem h1, List.getElem?_eq_getElem h2, h]; simp only [Option.toList_some, List.append_cancel_left_eq, List.cons.injEq, and_true]
end Rp
namespace Go.Proofs
open Go.RowKit Go.Shelf Rp
attribute [local go_sem] Oper.semAt_some
set_option maxRecDepth 100000 in
set_option maxHeartbeats 800000 in
theorem c_eqSets (A1 A2 : Option Addr) (c1 c2 : Nat) (l1 l2 : List BSet) (F1 F2 : Nat → Prop) (w : World) (hS1 : Kset.S w F1 A1 l1) (hS2 : Kset.S w F2 A2 l2) (hm : l1.length ≤ 9223372036854775807) :
    Calls Tryz.prog 65 #[.slice A1 l1.length c1, .slice A2 l2.length c2] w fun e w' => e = .returned (.bool (decide (l1 = l2))) ∧ Ext w w' := by
  by_cases hl : l1.length = l2.length
  · rw [← hl]
    have HL := Lib.hid hl
    clear hl
    go_enter Tryz.func65, Tryz.ntmps65
    go_wp2
    go_loopg [13] (l1.length + 1) (fun gk i wr => ∃ k : Nat, i = .int .i64 k ∧ k ≤ l1.length ∧ gk + k = l1.length + 1 ∧ l1.take k = l2.take k ∧ Ext w wr)
    case atStart => exact ⟨0, rfl, by omega, by omega, by simp, Ext.refl _⟩
    case round =>
      obtain ⟨k, rfl, hk, hgk, ht, hE⟩ := hrel
      have HG := Lib.hid hgk
      have HT := Lib.hid ht
      clear hgk ht
      by_cases hlt : k < l1.length
      · obtain ⟨b1, o1, rfl, hF1, hb1, p0, p1, p2, p3⟩ := S_set (hS1.step (fun b _ hl => hE.below.block b hl)) hlt
        have hlt2 : k < l2.length := by have := HL.out; omega
        obtain ⟨b2, o2, rfl, hF2, hb2, q0, q1, q2, q3⟩ := S_set (hS2.step (fun b _ hl => hE.below.block b hl)) hlt2
        have hst := take_eq_step hlt hlt2 HT.out
        have hne : l1[k] ≠ l2[k] → l1 ≠ l2 := fun h e => h (by subst e; rfl)
        have heq := run_eq_set (P := Tryz.prog) Tryz.underlying33 Tryz.underlying31 Tryz.sizeOf31 l1[k] l2[k]
        simp only [setV, setC, u64] at heq
        generalize l1[k] = x at *
        generalize l2[k] = y at *
        have hk0 : (0 : Int) ≤ k := by omega
        have hk1 : (k : Int) < l1.length := by omega
        have HS := Lib.hid hst
        have HN := Lib.hid hne
        have HE := Lib.hid hE
        have HS1 := Lib.hid hS1
        have HS2 := Lib.hid hS2
        clear hst hne hE hS1 hS2
        by_cases hxy : x = y
        · have hd : decide (x = y) = true := by simpa using hxy
          rw [hd] at heq
          have HX := Lib.hid hxy
          clear hxy hd
          go_wp2_with fail
          go_region_held3 (fun w' => (∀ b o, b < wr.heap.size → w'.cell? ⟨b, o, none⟩ = wr.cell? ⟨b, o, none⟩) ∧ (∀ b o, b < wr.heap.size → w'.frozen? ⟨b, o, none⟩ = wr.frozen? ⟨b, o, none⟩) ∧ Ext wr w')
            (first | exact stayE_start _ | fail)
            ((first | fail))
          go_wp2
          go_roundg (gk - 1)
          case measure => have := HG.out; omega
          case rel => exact ⟨k + 1, by go_num, by omega, by have := HG.out; omega, HS.out.2 HX.out, HE.out.drew⟩
        · have hd : decide (x = y) = false := by simpa using hxy
          rw [hd] at heq
          have HX := Lib.hid hxy
          clear hxy hd
          go_wp2_with fail
          go_region_held3 (fun w' => (∀ b o, b < wr.heap.size → w'.cell? ⟨b, o, none⟩ = wr.cell? ⟨b, o, none⟩) ∧ (∀ b o, b < wr.heap.size → w'.frozen? ⟨b, o, none⟩ = wr.frozen? ⟨b, o, none⟩) ∧ Ext wr w')
            (first | exact stayE_start _ | fail)
            ((first | fail))
          go_wp2
          go_ret
          exact ⟨by rw [decide_eq_false (HN.out HX.out)]; rfl, HE.out.drew⟩
      · obtain rfl : k = l1.length := by omega
        have hee : decide (l1 = l2) = true := by
          have := HT.out
          rw [List.take_length, HL.out, List.take_length] at this
          simpa using this
        go_wp2
        go_ret
        exact ⟨by rw [hee]; rfl, hE⟩
  · have hee : decide (l1 = l2) = false := by simpa using fun e => hl (by rw [e])
    have hl' : ¬ (l1.length : Int) = l2.length := by omega
    have hl2 : ((l1.length : Int) == l2.length) = false := by simpa using hl'
    clear hl
    go_enter Tryz.func65, Tryz.ntmps65
    go_wp2
    go_ret
    exact ⟨by rw [hee]; rfl, Ext.refl _⟩
/-- Is a number none of a state's? -/
def outB (n t : Int) : Bool := decide (t < 0) || decide (t ≥ n)
theorem c_right1 (B : Nat) (n t : Int) (w : World) (hc : w.cell? ⟨B, 0, none⟩ = some (.int .i64 n)) :
    Calls Tryz.prog 68 #[.int .i64 t, .pointer (some ⟨B, 0, none⟩)] w fun e w' => e = .returned (.bool (outB n t)) ∧ w' = w := by
  go_enter Tryz.func68, Tryz.ntmps68
  by_cases h0 : t < 0
  · go_wp2
    go_ret
    exact ⟨by simp [outB]; omega, rfl⟩
  · go_wp2
    go_ret
    exact ⟨by simp [outB]; omega, rfl⟩
set_option maxHeartbeats 400000 in
theorem c_indexOut (A : Option Addr) (c B : Nat) (n : Int) (l : List Int) (F : Nat → Prop) (w : World) (hS : Kint.S w F A l) (hm : l.length ≤ 9223372036854775807) (hc : w.cell? ⟨B, 0, none⟩ = some (.int .i64 n)) :
    Calls Tryz.prog 83 #[.slice A l.length c, .func (.func 68) #[] #[.pointer (some ⟨B, 0, none⟩)]] w fun e w' => (∃ r : Int, e = .returned (.int .i64 r) ∧ (decide (0 ≤ r) = l.any (outB n))) ∧ w' = w := by
  go_enter Tryz.func83, Tryz.ntmps83
  go_wp2
  go_loopg [8] (l.length + 1) (fun gk i wr => ∃ k : Nat, i = .int .i64 k ∧ k ≤ l.length ∧ gk + k = l.length + 1 ∧ (l.take k).any (outB n) = false ∧ wr = w)
  case atStart => exact ⟨0, rfl, by omega, by omega, by simp, rfl⟩
  case round =>
    obtain ⟨k, rfl, hk, hgk, ht, rfl⟩ := hrel
    have HG := Lib.hid hgk
    have HT := Lib.hid ht
    clear hgk ht
    by_cases hlt : k < l.length
    · obtain ⟨b, off, rfl, hF, hb, e0, hi⟩ := S_int hS hlt
      have hk0 : (0 : Int) ≤ k := by omega
      have hk1 : (k : Int) < l.length := by omega
      have hst : (l.take (k + 1)).any (outB n) = outB n l[k] := by
        rw [List.take_add_one, List.getElem?_eq_getElem hlt, List.any_append, HT.out]; simp
      have hany : outB n l[k] = true → l.any (outB n) = true := fun h => List.any_eq_true.2 ⟨l[k], List.getElem_mem hlt, h⟩
      generalize l[k] = t at *
      cases hx : outB n t with
      | true =>
        have hcall := c_right1 B n t wr hc
        rw [hx] at hcall
        have HA := Lib.hid (hany hx)
        clear hany hst hx
        go_wp2_with (go_at_call 68; refine hcall.mono ?_; rintro e w1 ⟨rfl, rfl⟩)
        go_ret
        exact ⟨⟨k, rfl, by rw [HA.out]; simp⟩, rfl⟩
      | false =>
        have hcall := c_right1 B n t wr hc
        rw [hx] at hcall
        have HA := Lib.hid (hst.trans hx)
        clear hany hst hx
        go_wp2_with (go_at_call 68; refine hcall.mono ?_; rintro e w1 ⟨rfl, rfl⟩)
        go_roundg (gk - 1)
        case measure => have := HG.out; omega
        case rel => exact ⟨k + 1, by go_num, by omega, by have := HG.out; omega, HA.out, rfl⟩
    · obtain rfl : k = l.length := by omega
      go_wp2
      go_ret
      refine ⟨⟨-1, rfl, ?_⟩, rfl⟩
      have := HT.out
      rw [List.take_length] at this
      rw [this]; rfl
theorem c_containsOut (A : Option Addr) (c B : Nat) (n : Int) (l : List Int) (F : Nat → Prop) (w : World) (hS : Kint.S w F A l) (hm : l.length ≤ 9223372036854775807) (hc : w.cell? ⟨B, 0, none⟩ = some (.int .i64 n)) :
    Calls Tryz.prog 67 #[.slice A l.length c, .func (.func 68) #[] #[.pointer (some ⟨B, 0, none⟩)]] w fun e w' => e = .returned (.bool (l.any (outB n))) ∧ w' = w := by
  go_enter Tryz.func67, Tryz.ntmps67
  go_wp2_with (go_at_call 83; refine (c_indexOut A c B n l F _ hS hm hc).mono ?_; rintro e w1 ⟨⟨r, rfl, hr⟩, rfl⟩)
  go_ret
  exact ⟨by rw [← hr]; simp [GE.ge], rfl⟩
end Go.Proofs
end

section
set_option linter.unusedVariables false
set_option linter.unusedSimpArgs false
namespace Rp
open Go Go.RowKit Go.Proofs
theorem Ext.drewN {a w : World} (h : Ext a w) (n : Nat) : Ext a (w.drewN n) := ⟨⟨h.below.os, h.below.tape, h.below.output, h.below.size, h.below.block⟩, Nat.le_trans h.drawn (Nat.le_add_right _ _)⟩
structure Dfa where
  cls : List BSet
  next : List (List Int)
  marks : List (List Int)
/-- Where an automaton's slices lie. -/
structure DA where
  A1 : Option Addr
  c1 : Nat
  A2 : Option Addr
  c2 : Nat
  A3 : Option Addr
  c3 : Nat
abbrev dfaC (h : DA) (d : Dfa) : Array Value := #[.slice h.A1 d.cls.length h.c1, .slice h.A2 d.next.length h.c2, .slice h.A3 d.marks.length h.c3]
abbrev dfaV (h : DA) (d : Dfa) : Value := .agg (dfaC h d)
structure DfaR (w : World) (F : Nat → Prop) (h : DA) (d : Dfa) : Prop where
  s1 : Kset.S w F h.A1 d.cls
  s2 : Kints.S w F h.A2 d.next
  s3 : Kints.S w F h.A3 d.marks
  l1 : d.cls.length ≤ h.c1
  l2 : d.next.length ≤ h.c2
  l3 : d.marks.length ≤ h.c3
  m1 : h.c1 ≤ 9223372036854775807
  m2 : h.c2 ≤ 9223372036854775807
  m3 : h.c3 ≤ 9223372036854775807
theorem DfaR.step {w w' : World} {F : Nat → Prop} {h : DA} {d : Dfa} (r : DfaR w F h d) (hm : ∀ k, F k → k < w.heap.size → w'.heap[k]? = w.heap[k]?) : DfaR w' F h d :=
  { r with s1 := r.s1.step hm, s2 := r.s2.step hm, s3 := r.s3.step hm }
theorem DfaR.below {w w' : World} {F : Nat → Prop} {h : DA} {d : Dfa} (r : DfaR w F h d) (hb : Below w.heap.size w w') : DfaR w' F h d := r.step fun k _ hk => hb.block k hk
theorem DfaR.mono {w : World} {F G : Nat → Prop} {h : DA} {d : Dfa} (r : DfaR w F h d) (hm : ∀ k, F k → G k) : DfaR w G h d :=
  { r with s1 := r.s1.mono hm, s2 := r.s2.mono hm, s3 := r.s3.mono hm }
/-- In increasing order, from behind 'last' on, at most 255. -/
def risB : Int → List Int → Bool
  | _, [] => true
  | last, m :: r => !(decide (m ≤ last) || decide (m > 255)) && risB m r
def stateB (d : Dfa) (s : Nat) : Bool := decide ((d.next.getD s []).length = d.cls.length) && !((d.next.getD s []).any (outB d.next.length)) && risB (-1) (d.marks.getD s [])
def rightB (d : Dfa) : Bool :=
  decide (1 ≤ d.next.length) && decide (d.next.length ≤ 4000) && decide (d.marks.length = d.next.length) && decide (partsB d.cls = d.cls) && (List.range d.next.length).all (stateB d)
theorem risB_step (last : Int) (l : List Int) (j : Nat) (h : j < l.length) : risB last (l.drop j) = (!(decide (l[j] ≤ last) || decide (l[j] > 255)) && risB l[j] (l.drop (j + 1))) := by
  rw [List.drop_eq_getElem_cons h]; rfl
end Rp
namespace Go.Proofs
open Go.RowKit Go.Shelf Rp
attribute [local go_sem] Oper.semAt_some
set_option maxRecDepth 100000 in
set_option maxHeartbeats 800000 in
theorem c_right0 (A1 A2 A3 : Option Addr) (k1 k2 k3 : Nat) (d : Dfa) (F : Nat → Prop) (w : World) (hs1 : Kset.S w F A1 d.cls) (hs2 : Kints.S w F A2 d.next) (hs3 : Kints.S w F A3 d.marks) (hl1 : d.cls.length ≤ k1) (hm1 : k1 ≤ 9223372036854775807) :
    Calls Tryz.prog 47 #[.agg #[.slice A1 d.cls.length k1, .slice A2 d.next.length k2, .slice A3 d.marks.length k3]] w fun e w' => e = .returned (.bool (rightB d)) ∧ Below w.heap.size w w' := by
  go_enter Tryz.func47, Tryz.ntmps47
  go_wp2_with fail
  refine wp_name fun W1 hW1 => ?_
  have q0 : W1.cell? ⟨w.heap.size, 0, none⟩ = some (.slice A1 d.cls.length k1) := by rw [← hW1]; clear hW1; go_simp
  have q1 : W1.cell? ⟨w.heap.size, 1, none⟩ = some (.slice A2 d.next.length k2) := by rw [← hW1]; clear hW1; go_simp
  have q2 : W1.cell? ⟨w.heap.size, 2, none⟩ = some (.slice A3 d.marks.length k3) := by rw [← hW1]; clear hW1; go_simp
  have q3 : W1.cell? ⟨w.heap.size + 1, 0, none⟩ = some (.int .i64 (d.next.length : Int)) := by rw [← hW1]; clear hW1; go_simp
  have hE1 : Ext w W1 := by rw [← hW1]; exact ((Ext.refl _).alloc _).alloc _
  have hz1 : w.heap.size < W1.heap.size := by rw [← hW1]; simp; omega
  have hz2 : w.heap.size + 1 < W1.heap.size := by rw [← hW1]; simp
  have r1 := hs1.step fun b _ hl => hE1.below.block b hl
  have r2 := hs2.step fun b _ hl => hE1.below.block b hl
  have r3 := hs3.step fun b _ hl => hE1.below.block b hl
  clear hW1 hs1 hs2 hs3
  by_cases hn1 : d.next.length < 1
  · have hb : rightB d = false := by simp [rightB, hn1]; omega
    have hd1 : decide ((d.next.length : Int) < 1) = true := by simp; omega
    have HB := Lib.hid hb
    clear hn1 hb
    go_quiet (fail)
    go_wp2
    go_ret
    exact ⟨by rw [HB.out]; rfl, (hE1.drewN _).below⟩
  have hd1 : decide ((d.next.length : Int) < 1) = false := by simp; omega
  by_cases hn2 : d.next.length > 4000
  · have hb : rightB d = false := by simp [rightB]; omega
    have hd2 : decide ((d.next.length : Int) > 4000) = true := by simp; omega
    have HB := Lib.hid hb
    clear hn1 hn2 hb
    go_quiet (fail)
    go_wp2
    go_ret
    exact ⟨by rw [HB.out]; rfl, (hE1.drewN _).below⟩
  have hd2 : decide ((d.next.length : Int) > 4000) = false := by simp; omega
  by_cases hn3 : d.marks.length = d.next.length
  rotate_left
  · have hb : rightB d = false := by simp [rightB, hn3]
    have hd3 : ((d.marks.length : Int) != d.next.length) = true := by simp; omega
    have HB := Lib.hid hb
    clear hn1 hn2 hn3 hb
    go_quiet (fail)
    go_wp2
    go_ret
    exact ⟨by rw [HB.out]; rfl, (hE1.drewN _).below⟩
  have hd3 : ((d.marks.length : Int) != d.next.length) = false := by simp; omega
  have HN1 := Lib.hid hn1
  have HN2 := Lib.hid hn2
  have HN3 := Lib.hid hn3
  clear hn1 hn2 hn3
  have hpar := c_parts A1 k1 d.cls F W1.drew (r1.step fun _ _ _ => rfl) hl1 hm1
  have hps : ∀ ps, partsB d.cls = ps → decide (partsB d.cls = d.cls) = decide (ps = d.cls) := fun ps e => by rw [e]
  generalize hps0 : partsB d.cls = ps at hpar
  have hps1 := hps ps hps0
  clear hps
  have HP := Lib.hid hps0
  clear hps0
  by_cases hn4 : ps = d.cls
  rotate_left
  · have hd4 : decide (ps = d.cls) = false := by simpa using hn4
    have hb : rightB d = false := by simp only [rightB, hps1, hd4]; simp
    have HB := Lib.hid hb
    clear hn4 hb hps1
    go_region_held3 (fun w' => (∀ b o, b < W1.heap.size → w'.cell? ⟨b, o, none⟩ = W1.cell? ⟨b, o, none⟩) ∧ (∀ b o, b < W1.heap.size → w'.frozen? ⟨b, o, none⟩ = W1.frozen? ⟨b, o, none⟩) ∧ Below W1.heap.size W1 w') (first | exact stay_start _ | exact stay_step ‹_› hB2 | exact stay_step ‹_› hB3.below)
      ((first
        | ((with_reducible refine hpar.mono ?_)
           rintro e w2 ⟨v, rfl, hO, hB2⟩
           obtain ⟨A', c', rfl, hl2, hm2, hS2⟩ := hO.reads
           have heq := c_eqSets A' A1 c' k1 ps d.cls _ F w2 hS2 (r1.step fun b _ hl => hB2.block b hl) (by omega)
           rw [hd4] at heq)
        | ((with_reducible refine heq.mono ?_)
           rintro e w3 ⟨rfl, hB3⟩)))
    go_wp2
    go_ret
    refine ⟨by rw [HB.out]; rfl, ?_⟩
    exact hE1.below.trans ((((Below.refl _ W1).drew.trans hB2).trans (hB3.below.mono hB2.size)).mono hE1.below.size)
  have hd4 : decide (ps = d.cls) = true := by simpa using hn4
  have HN4 := Lib.hid hn4
  have HP1 := Lib.hid hps1
  clear hn4 hps1
  go_region_held3 (fun w' => (∀ b o, b < W1.heap.size → w'.cell? ⟨b, o, none⟩ = W1.cell? ⟨b, o, none⟩) ∧ (∀ b o, b < W1.heap.size → w'.frozen? ⟨b, o, none⟩ = W1.frozen? ⟨b, o, none⟩) ∧ Below W1.heap.size W1 w') (first | exact stay_start _ | exact stay_step ‹_› hB2 | exact stay_step ‹_› hB3.below)
    ((first
      | ((with_reducible refine hpar.mono ?_)
         rintro e w2 ⟨v, rfl, hO, hB2⟩
         obtain ⟨A', c', rfl, hl2, hm2, hS2⟩ := hO.reads
         have heq := c_eqSets A' A1 c' k1 ps d.cls _ F w2 hS2 (r1.step fun b _ hl => hB2.block b hl) (by omega)
         rw [hd4] at heq)
      | ((with_reducible refine heq.mono ?_)
         rintro e w3 ⟨rfl, hB3⟩)))
  have hBe : Below W1.heap.size W1 w3 := ((Below.refl _ W1).drew.trans hB2).trans (hB3.below.mono hB2.size)
  have s1 := r1.step fun b _ hl => hBe.block b hl
  have s2 := r2.step fun b _ hl => hBe.block b hl
  have s3 := r3.step fun b _ hl => hBe.block b hl
  have e0 := bcellS hBe q0
  have e1 := bcellS hBe q1
  have e2 := bcellS hBe q2
  have e3 := bcellS hBe q3
  have hBw := hE1.below.trans (hBe.mono hE1.below.size)
  rename_i hH0
  clear hO hB2 hB3 q0 q1 q2 q3 hE1 hz1 hz2 r1 r2 r3 hBe heq hS2 hpar hl2 hm2 hH0
  go_wp2
  have hfalse : ∀ k, k < d.next.length → stateB d k = false → rightB d = false := fun k hk h => by
    unfold rightB
    rw [Bool.and_eq_false_iff]
    exact .inr (List.all_eq_false.2 ⟨k, List.mem_range.2 hk, by rw [h]; simp⟩)
  have htrue : (List.range d.next.length).all (stateB d) = true → rightB d = true := fun h => by
    simp only [rightB, h, HP1.out, hd4, HN3.out, decide_true, Bool.and_true]
    have := HN1.out; have := HN2.out
    simp; omega
  have HF := Lib.hid hfalse
  have HT := Lib.hid htrue
  clear hfalse htrue hd1 hd2 hd3 hd4
  go_loopg [37] (d.next.length + 1) (fun gk i wr => ∃ k : Nat, i = .int .i64 k ∧ k ≤ d.next.length ∧ gk + k = d.next.length + 1 ∧ (List.range k).all (stateB d) = true ∧ wr = w3)
  case atStart => exact ⟨0, rfl, by omega, by omega, by simp, rfl⟩
  case round =>
    obtain ⟨k, rfl, hk, hgk, ht, rfl⟩ := hrel
    have HG := Lib.hid hgk
    have HA := Lib.hid ht
    clear hgk ht
    by_cases hlt : k < d.next.length
    · obtain ⟨b2, o2, B2, cp2, rfl, hF2, hb2, p2, hl', hm', hS2⟩ := S_slice s2 hlt
      have hlt3 : k < d.marks.length := by have := HN3.out; omega
      obtain ⟨b3, o3, B3, cp3, rfl, hF3, hb3, p3, hl3, hm3, hS3⟩ := S_slice s3 hlt3
      have hk0 : (0 : Int) ≤ k := by omega
      have hk1 : (k : Int) < d.next.length := by omega
      have hk3 : (k : Int) < d.marks.length := by omega
      have hst : stateB d k = (decide (d.next[k].length = d.cls.length) && !(d.next[k].any (outB d.next.length)) && risB (-1) d.marks[k]) := by
        unfold stateB
        rw [List.getD_eq_getElem?_getD, List.getElem?_eq_getElem hlt, List.getD_eq_getElem?_getD, List.getElem?_eq_getElem hlt3]; rfl
      have hcall := c_containsOut B2 cp2 (w.heap.size + 1) d.next.length d.next[k] F wr hS2 (by omega) e3
      generalize d.next[k] = nx at *
      generalize d.marks[k] = mk at *
      have hbad : stateB d k = false → rightB d = false := HF.out k hlt
      have hgood : stateB d k = true → (List.range (k + 1)).all (stateB d) = true := fun h => by rw [List.range_succ, List.all_append, HA.out]; simp [h]
      by_cases h5 : nx.length = d.cls.length
      rotate_left
      · have hd5 : ((nx.length : Int) != d.cls.length) = true := by simp; omega
        have HB := Lib.hid (hbad (by rw [hst]; simp [h5]))
        clear hbad hgood hst h5 hcall
        go_wp2
        go_ret
        exact ⟨by rw [HB.out]; rfl, hBw⟩
      · have hd5 : ((nx.length : Int) != d.cls.length) = false := by simp; omega
        have hd6 : decide (nx.length = d.cls.length) = true := by simpa using h5
        rw [hd6] at hst
        clear h5 hd6
        cases hx : nx.any (outB d.next.length) with
        | true =>
          rw [hx] at hst hcall
          have HB := Lib.hid (hbad (by rw [hst]; simp))
          clear hbad hgood hst hx
          go_wp2_with (go_at_call 67; refine hcall.mono ?_; rintro e w1 ⟨rfl, rfl⟩)
          go_ret
          exact ⟨by rw [HB.out]; rfl, hBw⟩
        | false =>
          rw [hx] at hst hcall
          simp only [Bool.not_false, Bool.and_true, Bool.true_and] at hst
          have HB := Lib.hid fun h => hbad (hst.trans h)
          have HO := Lib.hid fun h => hgood (hst.trans h)
          clear hbad hgood hst hx
          obtain ⟨wo, rfl⟩ : ∃ wo : World, wo = wr := ⟨_, rfl⟩
          obtain ⟨ga, rfl⟩ : ∃ g : Nat, g = gk := ⟨_, rfl⟩
          go_wp2_with (go_at_call 67; refine hcall.mono ?_; rintro e w1 ⟨rfl, rfl⟩)
          have HH := Lib.hid hcall
          have HS2 := Lib.hid s2
          have HS3 := Lib.hid s3
          clear hcall s2 s3 s1 hS2 p2 hl'
          go_loopg [6, 59] (mk.length + 1) (fun gk la j w4 => ∃ (m : Nat) (t : Int), la = .int .i64 t ∧ j = .int .i64 m ∧ m ≤ mk.length ∧ gk + m = mk.length + 1 ∧ risB (-1) mk = risB t (mk.drop m) ∧ w4 = w1)
          case atStart => exact ⟨0, -1, rfl, rfl, by omega, by omega, by simp, rfl⟩
          case round =>
            obtain ⟨m, t, rfl, rfl, hm, hgk, ht, rfl⟩ := hrel
            have HG2 := Lib.hid hgk
            have HT2 := Lib.hid ht
            clear hgk ht
            by_cases hlm : m < mk.length
            · obtain ⟨b4, o4, rfl, hF4, hb4, p4, hin⟩ := S_int hS3 hlm
              have hm0 : (0 : Int) ≤ m := by omega
              have hm1 : (m : Int) < mk.length := by omega
              have hst := HT2.out.trans (risB_step t mk m hlm)
              generalize mk[m] = x at *
              by_cases h1 : x ≤ t
              · have HB := Lib.hid (HB.out (by rw [hst]; simp [h1]))
                have hd1 : decide (x ≤ t) = true := by simpa using h1
                clear hst
                go_wp2
                go_ret
                exact ⟨by rw [HB.out]; rfl, hBw⟩
              · have hd1 : decide (x ≤ t) = false := by simpa using h1
                by_cases h2 : x > 255
                · have HB := Lib.hid (HB.out (by rw [hst]; simp [h2]))
                  have hd2 : decide (x > 255) = true := by simpa using h2
                  clear hst h1
                  go_wp2
                  go_ret
                  exact ⟨by rw [HB.out]; rfl, hBw⟩
                · have hd2 : decide (x > 255) = false := by simpa using h2
                  rw [hd1, hd2] at hst
                  have HST := Lib.hid hst
                  clear hst h1 h2
                  go_wp2
                  go_roundg (gk - 1)
                  case measure => have := HG2.out; omega
                  case rel => exact ⟨m + 1, x, rfl, by go_num, by omega, by have := HG2.out; omega, by rw [HST.out]; simp, rfl⟩
            · obtain rfl : m = mk.length := by omega
              have hkb : (k : Int) < 4000 := by have := HN2.out; omega
              have HA2 := Lib.hid (HO.out (by rw [HT2.out]; simp [risB]))
              go_wp2
              go_roundg (ga - 1)
              case measure => have := HG.out; omega
              case rel => exact ⟨k + 1, by go_num, by omega, by have := HG.out; omega, HA2.out, rfl⟩
    · obtain rfl : k = d.next.length := by omega
      go_wp2
      go_ret
      exact ⟨by rw [HT.out HA.out]; rfl, hBw⟩
theorem c_right (h : DA) (d : Dfa) (F : Nat → Prop) (w : World) (hR : DfaR w F h d) :
    Calls Tryz.prog 47 #[dfaV h d] w fun e w' => e = .returned (.bool (rightB d)) ∧ Below w.heap.size w w' :=
  c_right0 h.A1 h.A2 h.A3 h.c1 h.c2 h.c3 d F w hR.s1 hR.s2 hR.s3 hR.l1 hR.m1
end Go.Proofs
end
