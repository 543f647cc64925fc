/- Rows that 'make' makes, and stores into rows of one's own; elements of one cell. slices.Reverse of bytes of one's own; bytes.Equal. bytes.Equal of two slices that are read. The search for the first string that an automaton accepts: states in the order in which they are come to. -/
import Derived.Test.YtmfijgigfianeaaGreatGrOf
import Derived.Test.YtmfijgigfianeaaGreatGrRef
import Derived.Laws.MakeOwn
import Derived.Laws.OwnMore
import Derived.Laws.IdiomStrings
section
set_option linter.unusedVariables false
set_option linter.unusedSimpArgs false
namespace Rp
open Go Go.RowKit
theorem OwnS.alloc {α : Type} {d : Kd α} {e : TypeId} {w : World} {base : Nat} {F : Nat → Prop} {v : Value} {xs : List α} (h : OwnS d e w base F v xs) (o : Obj) : OwnS d e (w.alloc o) base F v xs := h.step fun b _ hl => Below.heap_alloc w o b hl
theorem OwnS.below {α : Type} {d : Kd α} {e : TypeId} {w w' : World} {base : Nat} {F : Nat → Prop} {v : Value} {xs : List α} (h : OwnS d e w base F v xs) (hb : Below w.heap.size w w') : OwnS d e w' base F v xs := h.step fun b _ hl => hb.block b hl
theorem S_below {α : Type} {d : Kd α} {w w' : World} {F : Nat → Prop} {A : Option Addr} {xs : List α} (h : d.S w F A xs) (hb : Below w.heap.size w w') : d.S w' F A xs := h.step fun b _ hl => hb.block b hl
section
variable {α : Type} {enc : α → Value} {ok : α → Prop} {h1 : ∀ x, (enc x).oneCell' = true}
theorem flatSc : Flat (Kd.scalar enc ok h1) := fun _ _ _ _ _ _ h => h
theorem scal_reps {w : World} {F : Nat → Prop} : ∀ {xs : List α} {cs : List Value}, Reps ((Kd.scalar enc ok h1).R w F) 1 xs cs → cs = xs.map enc ∧ ∀ x ∈ xs, ok x
  | [], cs, h => ⟨h, fun _ hx => by simp at hx⟩
  | x :: xs, cs, ⟨c, r, e, hc, hp, hr⟩ => by
    obtain ⟨e1, h2⟩ := scal_reps hr
    obtain ⟨e0, hx⟩ := hp
    refine ⟨by rw [e, e0, e1]; rfl, fun y hy => ?_⟩
    rcases List.mem_cons.1 hy with rfl | hy
    · exact hx
    · exact h2 y hy
theorem reps_scal {w : World} {F : Nat → Prop} : ∀ {xs : List α}, (∀ x ∈ xs, ok x) → Reps ((Kd.scalar enc ok h1).R w F) 1 xs (xs.map enc)
  | [], _ => rfl
  | x :: xs, h => ⟨[enc x], xs.map enc, rfl, rfl, ⟨rfl, h x List.mem_cons_self⟩, reps_scal fun y hy => h y (List.mem_cons_of_mem _ hy)⟩
theorem scal_own {e : TypeId} {w : World} {base : Nat} {F : Nat → Prop} {v : Value} {xs : List α} :
    OwnS (Kd.scalar enc ok h1) e w base F v xs ↔ (∀ k, v.ownBlock = some k → F k) ∧ w.ownsRow base e 1 v xs.length (xs.map enc) ∧ ∀ x ∈ xs, ok x := by
  constructor
  · rintro ⟨hF, inner, ho, hr⟩
    obtain ⟨rfl, hx⟩ := scal_reps hr
    exact ⟨hF, ho, hx⟩
  · rintro ⟨hF, ho, hx⟩
    exact ⟨hF, _, ho, reps_scal hx⟩
theorem OwnS.made (W : World) (e : TypeId) (base n : Nat) (F : Nat → Prop) (z : α) (hz : ok z) (hb : base ≤ W.heap.size) (hF : F W.heap.size) (hn : n ≤ 9223372036854775807) :
    OwnS (Kd.scalar enc ok h1) e (W.alloc (.cells (madeCells #[enc z] n) e)) base F (.slice (some ⟨W.heap.size, 0, none⟩) n n) (List.replicate n z) := by
  refine scal_own.2 ⟨fun k hk => by simp [Value.ownBlock] at hk; subst hk; exact hF, ?_, fun x hx => by rw [List.eq_of_mem_replicate hx]; exact hz⟩
  refine ⟨by simp, .inr ⟨W.heap.size, n, madeCells #[enc z] n, by simp, hb, heap_alloc_new W _, by simp, by simpa [maxLen] using hn, by simp [size_madeCells], ?_⟩⟩
  rw [toList_madeCells_one]; simp
/-- What a row of one's own holds, cell by cell. -/
theorem OwnS.at1 {e : TypeId} {W : World} {base g n c : Nat} {F : Nat → Prop} {xs : List α} (h : OwnS (Kd.scalar enc ok h1) e W base F (.slice (some ⟨g, 0, none⟩) n c) xs) {i : Nat} {x : α} (hx : xs[i]? = some x) :
    W.cell? ⟨g, i, none⟩ = some (enc x) ∧ (∀ j, W.frozen? ⟨g, j, none⟩ = false) ∧ g < W.heap.size ∧ base ≤ g ∧ F g ∧ ok x := by
  obtain ⟨hF, ho, hok⟩ := scal_own.1 h
  have hlt := ho.lt (k := g) rfl
  have hc := ho.cells (g := g) (by simp [Value.ownBlock]) i (enc x) (by simp [hx])
  rw [Addr.add_lit] at hc
  refine ⟨by simpa using hc, fun j => ?_, hlt.2, hlt.1, hF g rfl, hok x (List.mem_of_getElem? hx)⟩
  rcases ho.2 with ⟨h, _⟩ | ⟨g', cap, cur, hv, _, hh, _⟩
  · cases h
  · injection hv with hv _ _
    injection hv with hv
    injection hv with hv
    subst hv
    simp [World.frozen?, hh]
theorem OwnS.set {e : TypeId} {W : World} {base g n c : Nat} {F : Nat → Prop} {xs : List α} (h : OwnS (Kd.scalar enc ok h1) e W base F (.slice (some ⟨g, 0, none⟩) n c) xs) {i : Nat} (hi : i < xs.length) {x : α} (hx : ok x) :
    OwnS (Kd.scalar enc ok h1) e (W.setCell ⟨g, i, none⟩ (enc x)) base F (.slice (some ⟨g, 0, none⟩) n c) (xs.set i x) := by
  obtain ⟨hF, ho, hok⟩ := scal_own.1 h
  refine scal_own.2 ⟨hF, ?_, fun y hy => ?_⟩
  · obtain ⟨hl, h2⟩ := ho
    refine ⟨by simp, ?_⟩
    rcases h2 with ⟨h, _⟩ | ⟨g', cap, cur, hv, hb, hh, hnc, hcm, hcs, htake⟩
    · cases h
    · injection hv with hv h3 h4
      injection hv with hv
      injection hv with hv
      subst hv h3 h4
      refine .inr ⟨g, c, cur.setIfInBounds i (enc x), by simp, hb, setCell_heap W g i cur e (0, 0) (enc x) hh, by simpa using hnc, hcm, by simpa using hcs, ?_⟩
      rw [Array.toList_setIfInBounds, List.length_set, List.take_set, htake, List.map_set]
  · rcases List.mem_or_eq_of_mem_set hy with hy | rfl
    · exact hok y hy
    · exact hx
theorem Mov.own_set (W : World) (g i : Nat) (u : Value) : Mov W (W.setCell ⟨g, i, none⟩ u) (some g) (some g) :=
  ⟨rfl, rfl, rfl, by simp, fun k hk hn => Below.heap_setCell _ _ _ k (fun e => hn (by rw [e])), .inl rfl⟩
end
end Rp
namespace Rp
open Go Go.RowKit
theorem run_make1 {P : Program} (t e : TypeId) (z : Value) (bytes n : Nat) (ht : P.underlying t = some (.slice e)) (hinfo : (P.info? e).map (fun i => (i.zero, i.size, i.bytes)) = some (some z, 1, bytes)) (hz : z.cells = #[z]) (hb : bytes * n ≤ 140737488355328) (h63 : n ≤ 9223372036854775807) (w : World) :
    (Instr.makeSlice t (.int .i64 (n : Int)) (.int .i64 (n : Int))).run P w = .ok (.slice (some ⟨w.heap.size, 0, none⟩) n n) (w.alloc (.cells (madeCells #[z] n) e)) := by
  obtain ⟨i0, hi, hzz⟩ := Option.map_eq_some_iff.1 hinfo
  simp only [Prod.mk.injEq] at hzz
  obtain ⟨hz0, hz1, hz2⟩ := hzz
  have hbb : (i0.bytes : Int) * (n : Int) ≤ 281474976710656 := by
    have h : ((i0.bytes * n : Nat) : Int) ≤ 281474976710656 := by rw [hz2]; omega
    rwa [Int.natCast_mul] at h
  have hr := run_make (P := P) w t e i0 z ht hi hz0 .i64 .i64 (n : Int) (n : Int) (by omega) (Int.le_refl _) hbb (by omega)
  simp only [Int.toNat_natCast, hz1, Nat.mul_one, hz] at hr
  exact hr
end Rp
namespace Rp
open Go Go.RowKit
theorem OwnS.form {α : Type} {d : Kd α} {e : TypeId} {w : World} {base : Nat} {F : Nat → Prop} {v : Value} {xs : List α} (h : OwnS d e w base F v xs) (hx : xs ≠ []) : ∃ g c, v = .slice (some ⟨g, 0, none⟩) xs.length c := by
  obtain ⟨_, inner, ho, _⟩ := h
  rcases ho.2 with ⟨_, h0⟩ | ⟨g, cap, cur, hv, _⟩
  · exact absurd (List.eq_nil_of_length_eq_zero h0) hx
  · exact ⟨g, cap, hv⟩
/-- Halfway turned round: the first i and the last i are. -/
def Half {α : Type} (xs ys : List α) (i : Nat) : Prop := ys.length = xs.length ∧ ∀ k, k < xs.length → ys[k]? = if k < i ∨ xs.length ≤ k + i then xs[xs.length - 1 - k]? else xs[k]?
theorem Half.start {α : Type} (xs : List α) : Half xs xs 0 := ⟨rfl, fun k hk => by rw [if_neg (by omega)]⟩
theorem Half.step {α : Type} {xs ys : List α} {i : Nat} (h : Half xs ys i) (hi : i + i + 1 < xs.length) {a b : α} (ha : ys[i]? = some a) (hb : ys[xs.length - 1 - i]? = some b) : Half xs ((ys.set i b).set (xs.length - 1 - i) a) (i + 1) := by
  refine ⟨by simpa using h.1, fun k hk => ?_⟩
  have e1 := h.2 i (by omega)
  have e2 := h.2 (xs.length - 1 - i) (by omega)
  rw [if_neg (by omega), ha] at e1
  rw [if_neg (by omega), hb] at e2
  have hl := h.1
  rw [List.getElem?_set, List.getElem?_set]
  by_cases k1 : xs.length - 1 - i = k
  · subst k1
    rw [if_pos rfl, if_pos (by simp; omega), if_pos (by omega), e1]
    congr 1; omega
  · rw [if_neg k1]
    by_cases k2 : i = k
    · subst k2
      rw [if_pos rfl, if_pos (by omega), if_pos (by omega), e2]
    · rw [if_neg k2, h.2 k hk]
      by_cases c : k < i ∨ xs.length ≤ k + i
      · rw [if_pos c, if_pos (by omega)]
      · rw [if_neg c, if_neg (by omega)]
theorem Half.done {α : Type} {xs ys : List α} {i : Nat} (h : Half xs ys i) (hi : xs.length ≤ i + i + 1) : ys = xs.reverse := by
  apply List.ext_getElem?
  intro k
  by_cases hk : k < xs.length
  · rw [h.2 k hk, List.getElem?_reverse hk]
    split
    · rfl
    · congr 1; omega
  · rw [List.getElem?_eq_none (by rw [h.1]; omega), List.getElem?_eq_none (by simp; omega)]
end Rp
namespace Rp
open Go Go.RowKit Go.Proofs
theorem Reps.set {α : Type} {R : α → List Value → Prop} : ∀ {ps : List α} {cs : List Value} {i : Nat} {x : α} {u : Value}, Reps R 1 ps cs → R x [u] → Reps R 1 (ps.set i x) (cs.set i u)
  | [], cs, i, x, u, h, hx => by rw [show cs = [] from h]; exact rfl
  | p :: ps, cs, 0, x, u, ⟨c, r, e, hc, hp, hr⟩, hx => by
    obtain ⟨v, rfl⟩ : ∃ v, c = [v] := by
      match c, hc with
      | [v], _ => exact ⟨v, rfl⟩
    subst e
    exact ⟨[u], r, rfl, rfl, hx, hr⟩
  | p :: ps, cs, i + 1, x, u, ⟨c, r, e, hc, hp, hr⟩, hx => by
    obtain ⟨v, rfl⟩ : ∃ v, c = [v] := by
      match c, hc with
      | [v], _ => exact ⟨v, rfl⟩
    subst e
    exact ⟨[v], r.set i u, rfl, rfl, hp, Reps.set hr hx⟩
/-- A store of an element of one cell into a row of one's own. -/
theorem OwnS.set1 {α : Type} {d : Kd α} (hd : d.sz = 1) {e : TypeId} {W : World} {base g n c : Nat} {F : Nat → Prop} {xs : List α} (h : OwnS d e W base F (.slice (some ⟨g, 0, none⟩) n c) xs) {i : Nat} {x : α} {u : Value} (hx : d.R W (fun b => F b ∧ some b ≠ some g) x [u]) :
    OwnS d e (W.setCell ⟨g, i, none⟩ u) base F (.slice (some ⟨g, 0, none⟩) n c) (xs.set i x) := by
  obtain ⟨hF, inner, ho, hr⟩ := h
  have hmv : ∀ {q : α} {cs : List Value}, d.R W (fun b => F b ∧ some b ≠ some g) q cs → d.R (W.setCell ⟨g, i, none⟩ u) (fun b => F b ∧ some b ≠ some g) q cs := fun hq => d.move (fun b hb => Below.heap_setCell W _ _ b (fun e => hb.2 (by rw [e]))) hq
  rw [hd] at hr ho
  refine ⟨hF, inner.set i u, ?_, ?_⟩
  · rw [hd, List.length_set]
    obtain ⟨hl, h2⟩ := ho
    refine ⟨by simpa using hl, ?_⟩
    rcases h2 with ⟨h, _⟩ | ⟨g', cap, cur, hv, hb, hh, hnc, hcm, hcs, htake⟩
    · cases h
    · injection hv with hv h3 h4
      injection hv with hv
      injection hv with hv
      subst hv h3 h4
      refine .inr ⟨g, c, cur.setIfInBounds i u, rfl, hb, setCell_heap W g i cur e (0, 0) u hh, hnc, hcm, by simpa using hcs, ?_⟩
      rw [Array.toList_setIfInBounds, List.take_set, htake]
  · rw [hd]
    exact Reps.set (hr.imp fun q cs _ hq => hmv hq) (hmv hx)
/-- A cell of a row of one's own. -/
theorem OwnS.cellK {α : Type} {d : Kd α} (hd : d.sz = 1) {e : TypeId} {W : World} {base g n c : Nat} {F : Nat → Prop} {xs : List α} (h : OwnS d e W base F (.slice (some ⟨g, 0, none⟩) n c) xs) {i : Nat} (hi : i < xs.length) :
    ∃ u, W.cell? ⟨g, i, none⟩ = some u ∧ (∀ j, W.frozen? ⟨g, j, none⟩ = false) ∧ g < W.heap.size ∧ base ≤ g ∧ F g := by
  obtain ⟨hF, inner, ho, hr⟩ := h
  rw [hd] at ho hr
  have hlt := ho.lt (k := g) rfl
  have hil : i < inner.length := by rw [ho.1]; omega
  have hc := ho.cells (g := g) (by simp [Value.ownBlock]) i inner[i] (List.getElem?_eq_getElem hil)
  rw [Addr.add_lit] at hc
  refine ⟨_, by simpa using hc, fun j => ?_, hlt.2, hlt.1, hF g rfl⟩
  rcases ho.2 with ⟨h, _⟩ | ⟨g', cap, cur, hv, _, hh, _⟩
  · cases h
  · injection hv with hv _ _
    injection hv with hv
    injection hv with hv
    subst hv
    simp [World.frozen?, hh]
theorem KintF_nil {w : World} {F : Nat → Prop} : KintF.R w F [] [.slice none 0 0] := ⟨none, 0, rfl, by simp, by simp, fun h => absurd rfl h⟩
theorem risB_len : ∀ (l : List Int) (last : Int), -1 ≤ last → risB last l = true → (l.length : Int) ≤ 255 - last ∨ l = []
  | [], _, _, _ => .inr rfl
  | m :: r, last, hl, h => by
    simp only [risB, Bool.and_eq_true, Bool.not_eq_true', Bool.or_eq_false_iff, decide_eq_false_iff_not] at h
    have h1 := risB_len r m (by omega) h.2
    left
    rcases h1 with h1 | h1
    · simp; omega
    · subst h1; simp; omega
theorem right_sizes {d : Dfa} (h : rightB d = true) : DfaS d := by
  obtain ⟨h1, h2, h3⟩ := right_len h
  have hp := (right_parts_facts h).2.2.1
  refine ⟨by omega, by omega, by omega, fun l hl => ?_, fun l hl => ?_⟩
  · obtain ⟨i, hi, rfl⟩ := List.getElem_of_mem hl
    have := (right_row h hi).1; omega
  · obtain ⟨i, hi, rfl⟩ := List.getElem_of_mem hl
    have hs := right_state h (s := i) (by omega)
    simp only [stateB, Bool.and_eq_true] at hs
    have h4 := hs.2
    rw [List.getD_eq_getElem?_getD, List.getElem?_eq_getElem hi] at h4
    rcases risB_len _ (-1) (by omega) h4 with h5 | h5
    · simp only [Option.getD_some] at h5; omega
    · simp only [Option.getD_some] at h5; rw [h5]; simp
end Rp
end

section
set_option linter.unusedVariables false
set_option linter.unusedSimpArgs false
namespace Go.Proofs
open Go.RowKit Go.Shelf Rp Go.Maps
attribute [local go_sem] Oper.semAt_some
/-- What the two loads of a swap ask. -/
def SSw (g i j : Nat) (a b : Value) (w : World) : Prop := w.cell? ⟨g, i, none⟩ = some a ∧ w.cell? ⟨g, j, none⟩ = some b
set_option maxRecDepth 100000 in
set_option maxHeartbeats 1600000 in
theorem c_reverse (v : Value) (xs : List UInt8) (base : Nat) (F : Nat → Prop) (w : World) (hO : OwnS Kbyte 5 w base F v xs) (hm : xs.length ≤ 1000000000) :
    Calls Tryz.prog 54 #[v] w fun e w' => e = .returned (.tuple #[]) ∧ OwnS Kbyte 5 w' base F v xs.reverse ∧ Mov w w' v.ownBlock v.ownBlock := by
  by_cases hx : xs = []
  · subst hx
    obtain ⟨A, c, rfl, _, _, _⟩ := hO.reads
    go_enter Tryz.func54, Tryz.ntmps54
    go_wp2
    refine wp_loop_rounds 1 ?_
    rw [rounds_succ]
    go_wp2
    go_end0
    exact ⟨rfl, hO, Mov.refl _ _⟩
  · obtain ⟨g, c, rfl⟩ := hO.form hx
    have hpos := List.length_pos_iff.2 hx
    go_enter Tryz.func54, Tryz.ntmps54
    go_wp2
    go_loopg [2, 3] (xs.length) (fun gk vi vj wr => ∃ (i j : Nat) (ys : List UInt8), vi = .int .i64 (i : Int) ∧ vj = .int .i64 (j : Int) ∧ i + j + 1 = xs.length ∧ i ≤ j + 1 ∧ gk + i = xs.length ∧ Half xs ys i ∧ OwnS Kbyte 5 wr base F (.slice (some ⟨g, 0, none⟩) xs.length c) ys ∧ Mov w wr (some g) (some g))
    case atStart => exact ⟨0, xs.length - 1, xs, rfl, by rw [Int.natCast_sub hpos]; rfl, by omega, by omega, by omega, Half.start xs, hO, Mov.refl _ _⟩
    case round =>
      obtain ⟨i, j, ys, rfl, rfl, hij, hij2, hgk, hH, hOr, hM⟩ := hrel
      have HG := Lib.hid hgk
      have HIJ := Lib.hid hij
      have hi0 : (0 : Int) ≤ i := by omega
      have hj0 : (0 : Int) ≤ j := by omega
      have hi1 : (i : Int) < xs.length := by omega
      have hj1 : (j : Int) < xs.length := by omega
      have hyl := hH.1
      have hiy : i < ys.length := by omega
      have hjy : j < ys.length := by omega
      obtain ⟨ei, hf, hgl, _, _, _⟩ := hOr.at1 (List.getElem?_eq_getElem hiy)
      obtain ⟨ej, _, _, _, _, _⟩ := hOr.at1 (List.getElem?_eq_getElem hjy)
      by_cases hlt : i < j
      · have hlt' : (i : Int) < j := by omega
        have hS : SSw g i j (byteV ys[i]) (byteV ys[j]) wr.drew := ⟨ei, ej⟩
        have hjx : xs.length - 1 - i = j := by omega
        have hst := hH.step (by omega) (List.getElem?_eq_getElem hiy) (b := ys[j]) (by rw [hjx]; exact List.getElem?_eq_getElem hjy)
        rw [hjx] at hst
        have hset := (hOr.set (i := i) hiy (x := ys[j]) trivial).set (i := j) (by simpa using hjy) (x := ys[i]) trivial
        have hmv := (hM.trans (Mov.own_set wr g i (byteV ys[j]))).trans (Mov.own_set _ g j (byteV ys[i]))
        have HST := Lib.hid hst
        have HSET := Lib.hid hset
        have HMV := Lib.hid hmv
        clear hst hset hmv hjx hgk hij hyl hH hOr hM
        generalize ys[i] = a at *
        generalize ys[j] = b at *
        go_wp2
        refine wp_region_noPanic (wp_region_T (SSw g i j (byteV a) (byteV b)) [7, 11] (by kernel_rfl) ?_)
        refine wpAnyT_takeY (i := 0) (v := ?v0_1) rfl (by kernel_rfl) (by kernel_rfl) (by kernel_rfl) (fun _ _ _ h => h) (by rfl) ?hy0_1 ?r0_1
        case hy0_1 => (intro w; go_simp; try (with_reducible rfl))
        case r0_1 =>
        try simp only [Act.put, List.setIfInBounds_toArray, List.set_cons_zero, List.set_cons_succ]
        refine wpAnyT_takeY (i := 1) (v := ?v1_2) rfl (by kernel_rfl) (by kernel_rfl) (by kernel_rfl) (fun _ _ _ h => h) (by rfl) ?hy1_2 ?r1_2
        case hy1_2 => (intro w; go_simp; try (with_reducible rfl))
        case r1_2 =>
        try simp only [Act.put, List.setIfInBounds_toArray, List.set_cons_zero, List.set_cons_succ]
        refine wpAnyT_takeY (i := 2) (v := ?v2_3) rfl (by kernel_rfl) (by kernel_rfl) (by kernel_rfl) (fun _ _ _ h => h) (by rfl) ?hy2_3 ?r2_3
        case hy2_3 => (intro w; go_simp; try (with_reducible rfl))
        case r2_3 =>
        try simp only [Act.put, List.setIfInBounds_toArray, List.set_cons_zero, List.set_cons_succ]
        refine wpAnyT_takeY (i := 3) (v := ?v3_4) rfl (by kernel_rfl) (by kernel_rfl) (by kernel_rfl) (fun _ _ _ h => h) (by rfl) ?hy3_4 ?r3_4
        case hy3_4 => (intro w; go_simp; try (with_reducible rfl))
        case r3_4 =>
        try simp only [Act.put, List.setIfInBounds_toArray, List.set_cons_zero, List.set_cons_succ]
        refine wpAnyT_takeY (i := 4) (v := ?v4_5) rfl (by kernel_rfl) (by kernel_rfl) (by kernel_rfl) (fun _ _ _ h => h) (by rfl) ?hy4_5 ?r4_5
        case hy4_5 => (intro w; go_simp; try (with_reducible rfl))
        case r4_5 =>
        try simp only [Act.put, List.setIfInBounds_toArray, List.set_cons_zero, List.set_cons_succ]
        refine wpAnyT_takeY (i := 5) (v := ?v5_6) rfl (by kernel_rfl) (by kernel_rfl) (by kernel_rfl) (fun _ _ _ h => h) (by rfl) ?hy5_6 ?r5_6
        case hy5_6 => (intro w; go_simp; try (with_reducible rfl))
        case r5_6 =>
        try simp only [Act.put, List.setIfInBounds_toArray, List.set_cons_zero, List.set_cons_succ]
        refine wpAnyT_takeY (i := 6) (v := ?v6_7) rfl (by kernel_rfl) (by kernel_rfl) (by kernel_rfl) (fun _ _ _ h => h) (by rfl) ?hy6_7 ?r6_7
        case hy6_7 => (intro w; go_simp; try (with_reducible rfl))
        case r6_7 =>
        try simp only [Act.put, List.setIfInBounds_toArray, List.set_cons_zero, List.set_cons_succ]
        refine wpAnyT_takeY (i := 8) (v := ?v8_8) rfl (by kernel_rfl) (by kernel_rfl) (by kernel_rfl) (fun _ _ _ h => h) (by rfl) ?hy8_8 ?r8_8
        case hy8_8 => (intro w; go_simp; try (with_reducible rfl))
        case r8_8 =>
        try simp only [Act.put, List.setIfInBounds_toArray, List.set_cons_zero, List.set_cons_succ]
        refine wpAnyT_takeY (i := 9) (v := ?v9_9) rfl (by kernel_rfl) (by kernel_rfl) (by kernel_rfl) (fun _ _ _ h => h) (by rfl) ?hy9_9 ?r9_9
        case hy9_9 => (intro w; go_simp; try (with_reducible rfl))
        case r9_9 =>
        try simp only [Act.put, List.setIfInBounds_toArray, List.set_cons_zero, List.set_cons_succ]
        refine wpAnyT_takeY (i := 10) (v := ?v10_10) rfl (by kernel_rfl) (by kernel_rfl) (by kernel_rfl) (fun _ _ _ h => h) (by rfl) ?hy10_10 ?r10_10
        case hy10_10 => (intro w; go_simp; try (with_reducible rfl))
        case r10_10 =>
        try simp only [Act.put, List.setIfInBounds_toArray, List.set_cons_zero, List.set_cons_succ]
        refine wpAnyT_take (i := 7) (v := ?v7_11) rfl rfl (by kernel_rfl) (by kernel_rfl) (by kernel_rfl) (fun _ _ _ h => h) (by rfl) hS ?hy7_11 ?r7_11
        case hy7_11 => (intro w hSw; obtain ⟨s1, s2⟩ := hSw; (try dsimp only at hSw); go_simp; try (with_reducible rfl))
        case r7_11 =>
        try simp only [Act.put, List.setIfInBounds_toArray, List.set_cons_zero, List.set_cons_succ]
        refine wpAnyT_take (i := 11) (v := ?v11_12) rfl rfl (by kernel_rfl) (by kernel_rfl) (by kernel_rfl) (fun _ _ _ h => h) (by rfl) hS ?hy11_12 ?r11_12
        case hy11_12 => (intro w hSw; obtain ⟨s1, s2⟩ := hSw; (try dsimp only at hSw); go_simp; try (with_reducible rfl))
        case r11_12 =>
        try simp only [Act.put, List.setIfInBounds_toArray, List.set_cons_zero, List.set_cons_succ]
        refine wpAnyT_takeY (i := 12) (v := ?v12_13) rfl (by kernel_rfl) (by kernel_rfl) (by kernel_rfl) (fun _ _ _ h => h) (by rfl) ?hy12_13 ?r12_13
        case hy12_13 => (intro w; go_simp; try (with_reducible rfl))
        case r12_13 =>
        try simp only [Act.put, List.setIfInBounds_toArray, List.set_cons_zero, List.set_cons_succ]
        refine wpAnyT_one (i := 13) rfl (by kernel_rfl) (by rfl) (fun K hK => ?_)
        go_simp
        refine hK _ _ (no_need (by kernel_rfl)) ?_
        clear hK K
        try simp only [Act.put, List.setIfInBounds_toArray, List.set_cons_zero, List.set_cons_succ]
        refine wpAnyT_takeY (i := 14) (v := ?v14_14) rfl (by kernel_rfl) (by kernel_rfl) (by kernel_rfl) (fun _ _ _ h => h) (by rfl) ?hy14_14 ?r14_14
        case hy14_14 => (intro w; go_simp; try (with_reducible rfl))
        case r14_14 =>
        try simp only [Act.put, List.setIfInBounds_toArray, List.set_cons_zero, List.set_cons_succ]
        refine wpAnyT_one (i := 15) rfl (by kernel_rfl) (by rfl) (fun K hK => ?_)
        go_simp
        refine hK _ _ (no_need (by kernel_rfl)) ?_
        clear hK K
        try simp only [Act.put, List.setIfInBounds_toArray, List.set_cons_zero, List.set_cons_succ]
        refine wpAnyT_done (by kernel_rfl) ?_ _
        refine NoPanic.normal ?_
        go_wp2
        go_roundg (gk - 1)
        case measure => have := HG.out; have := HIJ.out; omega
        case rel => exact ⟨i + 1, j - 1, _, by go_num, by rw [Int.natCast_sub (by omega)]; rfl, by have := HIJ.out; omega, by omega, by have := HG.out; have := HIJ.out; omega, HST.out, HSET.out, HMV.out.drew⟩
      · have hlt' : ¬ (i : Int) < j := by omega
        have hys := hH.done (by omega)
        subst hys
        go_wp2
        go_end0
        exact ⟨rfl, hOr, hM⟩
end Go.Proofs
end

section
set_option linter.unusedVariables false
set_option linter.unusedSimpArgs false
namespace Rp
open Go Go.RowKit
theorem conv_bytes {P : Program} (src dst e : TypeId) (hs : P.underlying src = some (.slice e)) (he : P.underlying e = some (.int .u8)) (hd : P.underlying dst = some .string) (w : World) (F : Nat → Prop) (A : Option Addr) (bs : List UInt8) (c : Nat) (h : Kbyte.S w F A bs) :
    (convert src dst (.slice A bs.length c)).run P w = .ok (.string ⟨bs.toArray⟩) w := by
  by_cases hb : bs = []
  · subst hb
    cases A with
    | none => exact (run_convert_bytes_string w src dst e none 0 c hs he hd).trans (by simp [Conv.bytesToString]; rfl)
    | some a => exact run_convert_bytes_back w src dst e a c [] hs he hd (fun j hj => by simp at hj)
  · obtain ⟨b, off, inner, rfl, _, hlt, hr, hc⟩ := h hb
    obtain ⟨rfl, _⟩ := scal_reps (enc := byteV) (ok := fun _ => True) (h1 := fun _ => rfl) hr
    refine run_convert_bytes_back w src dst e ⟨b, off, none⟩ c bs hs he hd fun j hj => ?_
    rw [Addr.add_lit]
    exact hc j _ (by simp [hj])
end Rp
namespace Go.Proofs
open Go.RowKit Go.Shelf Rp Go.Maps
theorem c_bytesEqual (A1 A2 : Option Addr) (c1 c2 : Nat) (xs ys : List UInt8) (F G : Nat → Prop) (w : World) (h1 : Kbyte.S w F A1 xs) (h2 : Kbyte.S w G A2 ys) :
    Calls Tryz.prog 22 #[.slice A1 xs.length c1, .slice A2 ys.length c2] w fun e w' => e = .returned (.bool (decide (xs = ys))) ∧ w = w' := by
  have k1 := conv_bytes (P := Tryz.prog) 47 9 5 Tryz.underlying47 Tryz.underlying5 Tryz.underlying9 w F A1 xs c1 h1
  have k2 := conv_bytes (P := Tryz.prog) 47 9 5 Tryz.underlying47 Tryz.underlying5 Tryz.underlying9 w G A2 ys c2 h2
  clear h1 h2
  go_enter Tryz.func22, Tryz.ntmps22
  go_wp2
  go_ret
  refine ⟨?_, rfl⟩
  show Ending.returned (.bool (xs == ys)) = _
  rw [show (xs == ys) = decide (xs = ys) from by rw [Bool.eq_iff_iff]; simp]
end Go.Proofs
end

section
set_option linter.unusedVariables false
set_option linter.unusedSimpArgs false
namespace Rp
open Go.Proofs Go.Shelf
theorem getD_set {α : Type} (l : List α) (i j : Nat) (x z : α) : (l.set i x).getD j z = if i = j ∧ i < l.length then x else l.getD j z := by
  simp only [List.getD_eq_getElem?_getD, List.getElem?_set]
  by_cases h : i = j
  · subst h
    by_cases hl : i < l.length
    · simp [hl]
    · simp [hl]
  · simp [h]
/-- What holds when states 0..i-1 of 'todo' and the classes below k of the next one are done. W: the string by which a state was come to. -/
structure Bfs (d : Dfa) (i k : Nat) (fr : List Int) (bys : List UInt8) (todo : List Nat) (W : Nat → List UInt8) : Prop where
  lf : fr.length = d.next.length
  lb : bys.length = d.next.length
  cnt : fr.countP (fun x => x != 0) = todo.length
  head : todo[0]? = some 0
  lt : ∀ t ∈ todo, t < d.next.length
  disc : ∀ t, t < d.next.length → (fr.getD t 0 ≠ 0 ↔ t ∈ todo)
  fr0 : fr.getD 0 0 = -1
  w0 : W 0 = []
  par : ∀ t ∈ todo, t ≠ 0 → ∃ s : Nat, fr.getD t 0 = (s : Int) + 1 ∧ s ∈ todo ∧ W t = W s ++ [bys.getD t 0]
  run : ∀ t ∈ todo, runD d 0 (W t) = t
  rise : todo.Pairwise (fun s t => slt (W s) (W t))
  done : ∀ j, j < i → ∀ s, todo[j]? = some s → ∀ c : UInt8, dlt d s c.toNat ∈ todo ∧ sle (W (dlt d s c.toNat)) (W s ++ [c])
  donek : ∀ s, todo[i]? = some s → ∀ c : UInt8, clsOf d.cls c.toNat < k → dlt d s c.toNat ∈ todo ∧ sle (W (dlt d s c.toNat)) (W s ++ [c])
  src : ∀ t ∈ todo, t ≠ 0 → (∃ j s, ∃ c : UInt8, j < i ∧ todo[j]? = some s ∧ W t = W s ++ [c]) ∨ ∃ s, ∃ c : UInt8, todo[i]? = some s ∧ clsOf d.cls c.toNat < k ∧ W t = W s ++ [c] ∧ c = (firstB (d.cls.getD (clsOf d.cls c.toNat) 0#256)).1
  nacc : ∀ j, j < i → ∀ s, todo[j]? = some s → accB d s = false
theorem Bfs.len {d : Dfa} {i k : Nat} {fr : List Int} {bys : List UInt8} {todo : List Nat} {W : Nat → List UInt8} (h : Bfs d i k fr bys todo W) : todo.length ≤ d.next.length := by
  rw [← h.cnt, ← h.lf]; exact List.countP_le_length
theorem Bfs.start {d : Dfa} (hd : rightB d = true) : Bfs d 0 0 ((List.replicate d.next.length (0 : Int)).set 0 (-1)) (List.replicate d.next.length 0) [0] (fun _ => []) := by
  have hn := (right_len hd).1
  refine ⟨by simp, by simp, ?_, rfl, fun t ht => by rw [List.mem_singleton.1 ht]; omega, fun t ht => ?_, ?_, rfl, fun t ht hne => absurd (List.mem_singleton.1 ht) hne, fun t ht => by rw [List.mem_singleton.1 ht]; rfl, List.pairwise_singleton _ _, fun j hj => by omega, fun s hs c hc => by omega, fun t ht hne => absurd (List.mem_singleton.1 ht) hne, fun j hj => by omega⟩
  · rw [List.countP_set (by simp; omega)]
    simp [List.countP_replicate]
  · rw [getD_set]
    by_cases e : (0 : Nat) = t
    · subst e; simp; omega
    · have : ¬ (0 = t ∧ 0 < (List.replicate d.next.length (0 : Int)).length) := fun h => e h.1
      rw [if_neg this]
      simp [List.getD_eq_getElem?_getD, List.getElem?_replicate, ht]
      omega
  · rw [getD_set, if_pos ⟨rfl, by simp; omega⟩]
/-- A class is done that leads to a state that was come to before. -/
theorem Bfs.old {d : Dfa} (hd : rightB d = true) {i k : Nat} {fr : List Int} {bys : List UInt8} {todo : List Nat} {W : Nat → List UInt8} (h : Bfs d i k fr bys todo W) {s t : Nat} (hi : todo[i]? = some s) (hk : k < d.cls.length)
    (ht : t < d.next.length) (hkt : ∀ c : UInt8, clsOf d.cls c.toNat = k → dlt d s c.toNat = t) (hf : fr.getD t 0 ≠ 0) : Bfs d i (k + 1) fr bys todo W := by
  have hm := (h.disc t ht).1 hf
  refine { h with donek := fun s' hs' c hc => ?_, src := fun t ht hne => ?_ }
  · rcases Nat.lt_or_eq_of_le (Nat.le_of_lt_succ hc) with hc | hc
    · exact h.donek s' hs' c hc
    · have : s' = s := by rw [hi] at hs'; exact (Option.some.inj hs').symm
      subst this
      rw [hkt c hc]
      refine ⟨hm, ?_⟩
      by_cases h0 : t = 0
      · subst h0; rw [h.w0]; exact .inr (slt_nil _ _)
      · rcases h.src t hm h0 with ⟨j, u, e, hj, hu, hw⟩ | ⟨u, e, hu, he, hw, hfe⟩
        · rw [hw]
          have hji : j < todo.length := (List.getElem?_eq_some_iff.1 hu).1
          have hii : i < todo.length := (List.getElem?_eq_some_iff.1 hi).1
          have := List.pairwise_iff_getElem.1 h.rise j i hji hii hj
          rw [(List.getElem?_eq_some_iff.1 hu).2, (List.getElem?_eq_some_iff.1 hi).2] at this
          exact .inr (slt_snoc _ _ this)
        · have : u = s' := by rw [hi] at hu; exact (Option.some.inj hu).symm
          subst this
          rw [hw]
          refine sle_last _ ?_
          have h1 := (first_of_cls hd hk).2 c.toNat c.toNat_lt hc
          have h2 := first_rise hd he hk
          rw [List.getD_eq_getElem?_getD, List.getElem?_eq_getElem (by omega)] at hfe
          simp only [Option.getD_some] at hfe
          rw [hfe]; omega
  · rcases h.src t ht hne with a | ⟨u, e, hu, he, hw, hfe⟩
    · exact .inl a
    · exact .inr ⟨u, e, hu, by omega, hw, hfe⟩
/-- A class is done that leads to a new state. -/
theorem Bfs.new {d : Dfa} (hd : rightB d = true) {i k : Nat} {fr : List Int} {bys : List UInt8} {todo : List Nat} {W : Nat → List UInt8} (h : Bfs d i k fr bys todo W) {s t : Nat} (hi : todo[i]? = some s) (hk : k < d.cls.length)
    (ht : t < d.next.length) (hkt : ∀ c : UInt8, clsOf d.cls c.toNat = k → dlt d s c.toNat = t) (hf : fr.getD t 0 = 0) :
    Bfs d i (k + 1) (fr.set t ((s : Int) + 1)) (bys.set t (firstB d.cls[k]).1) (todo ++ [t]) (fun u => if u = t then W s ++ [(firstB d.cls[k]).1] else W u) := by
  have hn : t ∉ todo := fun hm => (h.disc t ht).2 hm hf
  have hii : i < todo.length := (List.getElem?_eq_some_iff.1 hi).1
  have hs : s ∈ todo := List.mem_of_getElem? hi
  have h0 : (0 : Nat) ∈ todo := List.mem_of_getElem? h.head
  have ht0 : t ≠ 0 := fun e => hn (e ▸ h0)
  have hne : ∀ u ∈ todo, u ≠ t := fun u hu e => hn (e ▸ hu)
  have hW : ∀ u ∈ todo, (if u = t then W s ++ [(firstB d.cls[k]).1] else W u) = W u := fun u hu => if_neg (hne u hu)
  have hkc := first_of_cls hd hk
  have hrn : dlt d s (firstB d.cls[k]).1.toNat = t := hkt _ hkc.1
  have htl : t < fr.length := by rw [h.lf]; exact ht
  have htb : t < bys.length := by rw [h.lb]; exact ht
  have hmem : ∀ u, u ∈ todo ++ [t] ↔ u ∈ todo ∨ u = t := by simp
  have hat : ∀ {j u : Nat}, j < todo.length → ((todo ++ [t])[j]? = some u ↔ todo[j]? = some u) := by
    intro j u hj; rw [List.getElem?_append_left hj]
  have hup : ∀ u ∈ todo, slt (W u) (W s ++ [(firstB d.cls[k]).1]) := by
    intro u hu
    by_cases hu0 : u = 0
    · subst hu0; rw [h.w0]; exact slt_nil _ _
    · rcases h.src u hu hu0 with ⟨j, v, e, hj, hv, hw⟩ | ⟨v, e, hv, he, hw, hfe⟩
      · rw [hw]
        have hji : j < todo.length := (List.getElem?_eq_some_iff.1 hv).1
        have := List.pairwise_iff_getElem.1 h.rise j i hji hii hj
        rw [(List.getElem?_eq_some_iff.1 hv).2, (List.getElem?_eq_some_iff.1 hi).2] at this
        exact slt_snoc _ _ this
      · have : v = s := by rw [hi] at hv; exact (Option.some.inj hv).symm
        subst this
        rw [hw]
        refine slt_last _ ?_
        have h2 := first_rise hd he hk
        rw [List.getD_eq_getElem?_getD, List.getElem?_eq_getElem (by omega)] at hfe
        simp only [Option.getD_some] at hfe
        rw [hfe]; omega
  have hfrt : ∀ u, (fr.set t ((s : Int) + 1)).getD u 0 = if t = u then (s : Int) + 1 else fr.getD u 0 := by
    intro u; rw [getD_set]
    by_cases e : t = u
    · rw [if_pos ⟨e, htl⟩, if_pos e]
    · rw [if_neg fun x => e x.1, if_neg e]
  have hbyt : ∀ u, (bys.set t (firstB d.cls[k]).1).getD u 0 = if t = u then (firstB d.cls[k]).1 else bys.getD u 0 := by
    intro u; rw [getD_set]
    by_cases e : t = u
    · rw [if_pos ⟨e, htb⟩, if_pos e]
    · rw [if_neg fun x => e x.1, if_neg e]
  refine ⟨by rw [List.length_set]; exact h.lf, by rw [List.length_set]; exact h.lb, ?_, ?_, ?_, ?_, ?_, ?_, ?_, ?_, ?_, ?_, ?_, ?_, ?_⟩
  · rw [List.countP_set htl, h.cnt]
    have e1 : fr[t] = 0 := by simpa [List.getD_eq_getElem?_getD, List.getElem?_eq_getElem htl] using hf
    have e2 : ((s : Int) + 1 != 0) = true := by simp; omega
    simp [e1, e2]
  · rw [hat (by omega)]; exact h.head
  · intro u hu
    rcases (hmem u).1 hu with hu | rfl
    · exact h.lt u hu
    · exact ht
  · intro u hu
    rw [hfrt, hmem]
    by_cases e : t = u
    · subst e; simp; omega
    · rw [if_neg e, h.disc u hu]; simp [Ne.symm e]
  · rw [hfrt, if_neg ht0]; exact h.fr0
  · simp [Ne.symm ht0]; exact h.w0
  · intro u hu hu0
    rcases (hmem u).1 hu with hu | rfl
    · obtain ⟨v, a1, a2, a3⟩ := h.par u hu hu0
      refine ⟨v, ?_, (hmem v).2 (.inl a2), ?_⟩
      · rw [hfrt, if_neg (Ne.symm (hne u hu))]; exact a1
      · simp only [hW u hu, hW v a2]; rw [hbyt, if_neg (Ne.symm (hne u hu))]; exact a3
    · refine ⟨s, ?_, (hmem s).2 (.inl hs), ?_⟩
      · rw [hfrt, if_pos rfl]
      · simp only [if_true, hW s hs]; rw [hbyt, if_pos rfl]
  · intro u hu
    rcases (hmem u).1 hu with hu | rfl
    · simp only [hW u hu]; exact h.run u hu
    · simp only [if_true]; rw [runD_snoc, h.run s hs, hrn]
  · rw [List.pairwise_append]
    refine ⟨?_, List.pairwise_singleton _ _, fun a ha b hb => ?_⟩
    · refine List.Pairwise.imp_of_mem (fun {a b} ha hb hab => ?_) h.rise
      simp only [hW a ha, hW b hb]; exact hab
    · rw [List.mem_singleton.1 hb]
      simp only [hW a ha, if_true]; exact hup a ha
  · intro j hj u hu c
    rw [hat (by omega)] at hu
    obtain ⟨a1, a2⟩ := h.done j hj u hu c
    refine ⟨(hmem _).2 (.inl a1), ?_⟩
    simp only [hW _ a1, hW u (List.mem_of_getElem? hu)]; exact a2
  · intro u hu c hc
    rw [hat hii] at hu
    have : u = s := by rw [hi] at hu; exact (Option.some.inj hu).symm
    subst this
    rcases Nat.lt_or_eq_of_le (Nat.le_of_lt_succ hc) with hc | hc
    · obtain ⟨a1, a2⟩ := h.donek u hu c hc
      refine ⟨(hmem _).2 (.inl a1), ?_⟩
      simp only [hW _ a1, hW u hs]; exact a2
    · rw [hkt c hc]
      refine ⟨(hmem t).2 (.inr rfl), ?_⟩
      simp only [if_true, hW u hs]
      exact sle_last _ (hkc.2 c.toNat c.toNat_lt hc)
  · intro u hu hu0
    rcases (hmem u).1 hu with hu | rfl
    · simp only [hW u hu]
      rcases h.src u hu hu0 with ⟨j, v, e, hj, hv, hw⟩ | ⟨v, e, hv, he, hw, hfe⟩
      · exact .inl ⟨j, v, e, hj, by rw [hat (by omega)]; exact hv, by simp only [hW v (List.mem_of_getElem? hv)]; exact hw⟩
      · exact .inr ⟨v, e, by rw [hat hii]; exact hv, by omega, by simp only [hW v (List.mem_of_getElem? hv)]; exact hw, hfe⟩
    · refine .inr ⟨s, (firstB d.cls[k]).1, by rw [hat hii]; exact hi, by rw [hkc.1]; omega, by simp only [if_true, hW s hs], ?_⟩
      rw [hkc.1, List.getD_eq_getElem?_getD, List.getElem?_eq_getElem hk]; rfl
  · intro j hj u hu
    rw [hat (by omega)] at hu
    exact h.nacc j hj u hu
/-- All classes of a state that accepts nothing are done. -/
theorem Bfs.round {d : Dfa} (hd : rightB d = true) {i : Nat} {fr : List Int} {bys : List UInt8} {todo : List Nat} {W : Nat → List UInt8} (h : Bfs d i d.cls.length fr bys todo W) {s : Nat} (hi : todo[i]? = some s) (ha : accB d s = false) : Bfs d (i + 1) 0 fr bys todo W := by
  refine { h with done := fun j hj u hu c => ?_, donek := fun u hu c hc => by omega, src := fun t ht hne => .inl ?_, nacc := fun j hj u hu => ?_ }
  · rcases Nat.lt_or_eq_of_le (Nat.le_of_lt_succ hj) with hj | rfl
    · exact h.done j hj u hu c
    · exact h.donek u hu c (clsOf_range hd c.toNat_lt)
  · rcases h.src t ht hne with ⟨j, v, e, hj, hv, hw⟩ | ⟨v, e, hv, he, hw, hfe⟩
    · exact ⟨j, v, e, by omega, hv, hw⟩
    · exact ⟨i, v, e, by omega, hv, hw⟩
  · rcases Nat.lt_or_eq_of_le (Nat.le_of_lt_succ hj) with hj | rfl
    · exact h.nacc j hj u hu
    · rw [hi] at hu; cases hu; exact ha
theorem snoc_induct {α : Type} {P : List α → Prop} (h0 : P []) (hs : ∀ l x, P l → P (l ++ [x])) (l : List α) : P l := by
  rw [← List.reverse_reverse l]
  induction l.reverse with
  | nil => exact h0
  | cons x r ih => rw [List.reverse_cons]; exact hs _ _ ih
/-- The first one of 'todo' that accepts has the first string. -/
theorem Bfs.found {d : Dfa} (hd : rightB d = true) {i : Nat} {fr : List Int} {bys : List UInt8} {todo : List Nat} {W : Nat → List UInt8} (h : Bfs d i 0 fr bys todo W) {s : Nat} (hi : todo[i]? = some s) (ha : accB d s = true) : FirstOf d (some (W s)) := by
  have hii : i < todo.length := (List.getElem?_eq_some_iff.1 hi).1
  have hs : s ∈ todo := List.mem_of_getElem? hi
  refine ⟨by rw [h.run s hs]; exact ha, fun b hb => ?_⟩
  have key : ∀ b : List UInt8, (∃ j t : Nat, todo[j]? = some t ∧ runD d 0 b = t ∧ sle (W t) b) ∨ slt (W s) b := by
    intro b
    induction b using snoc_induct with
    | h0 => exact .inl ⟨0, 0, h.head, rfl, by rw [h.w0]; exact sle_refl _⟩
    | hs b c ih =>
      rcases ih with ⟨j, t, hj, hr, hw⟩ | ih
      · rcases Nat.lt_or_ge j i with hji | hji
        · obtain ⟨a1, a2⟩ := h.done j hji t hj c
          obtain ⟨m, hm, e⟩ := List.getElem_of_mem a1
          exact .inl ⟨m, dlt d t c.toNat, by rw [List.getElem?_eq_getElem hm, e], by rw [runD_snoc, hr], sle_trans a2 (sle_snoc c hw)⟩
        · refine .inr (sle_slt ?_ (slt_more b c))
          refine sle_trans ?_ hw
          rcases Nat.lt_or_eq_of_le hji with hlt | e
          · have hjl : j < todo.length := (List.getElem?_eq_some_iff.1 hj).1
            have := List.pairwise_iff_getElem.1 h.rise i j hii hjl hlt
            rw [(List.getElem?_eq_some_iff.1 hj).2, (List.getElem?_eq_some_iff.1 hi).2] at this
            exact .inr this
          · subst e; rw [hi] at hj; cases hj; exact sle_refl _
      · exact .inr (slt_trans ih (slt_more b c))
  rcases key b with ⟨j, t, hj, hr, hw⟩ | hlt
  · rw [hr] at hb
    rcases Nat.lt_or_ge j i with hji | hji
    · rw [h.nacc j hji t hj] at hb; cases hb
    · refine sle_trans ?_ hw
      rcases Nat.lt_or_eq_of_le hji with hlt | e
      · have hjl : j < todo.length := (List.getElem?_eq_some_iff.1 hj).1
        have := List.pairwise_iff_getElem.1 h.rise i j hii hjl hlt
        rw [(List.getElem?_eq_some_iff.1 hj).2, (List.getElem?_eq_some_iff.1 hi).2] at this
        exact .inr this
      · subst e; rw [hi] at hj; cases hj; exact sle_refl _
  · exact .inr hlt
/-- If none accepts, no string is accepted. -/
theorem Bfs.none {d : Dfa} (hd : rightB d = true) {i : Nat} {fr : List Int} {bys : List UInt8} {todo : List Nat} {W : Nat → List UInt8} (h : Bfs d i 0 fr bys todo W) (hi : todo.length ≤ i) : FirstOf d Option.none := by
  have key : ∀ b : List UInt8, runD d 0 b ∈ todo := by
    intro b
    induction b using snoc_induct with
    | h0 => exact List.mem_of_getElem? h.head
    | hs b c ih =>
      obtain ⟨m, hm, e⟩ := List.getElem_of_mem ih
      rw [runD_snoc]
      exact (h.done m (by omega) _ (by rw [List.getElem?_eq_getElem hm, e]) c).1
  intro b
  obtain ⟨m, hm, e⟩ := List.getElem_of_mem (key b)
  exact h.nacc m (by omega) _ (by rw [List.getElem?_eq_getElem hm, e])
/-- The strings are no longer than there are states. -/
theorem Bfs.short {d : Dfa} {i k : Nat} {fr : List Int} {bys : List UInt8} {todo : List Nat} {W : Nat → List UInt8} (h : Bfs d i k fr bys todo W) : ∀ j s, todo[j]? = some s → (W s).length ≤ j := by
  intro j
  induction j using Nat.strongRecOn with
  | _ j ih =>
    intro s hj
    have hjl : j < todo.length := (List.getElem?_eq_some_iff.1 hj).1
    by_cases h0 : s = 0
    · subst h0; rw [h.w0]; exact Nat.zero_le _
    · obtain ⟨p, a1, a2, a3⟩ := h.par s (List.mem_of_getElem? hj) h0
      obtain ⟨m, hm, e⟩ := List.getElem_of_mem a2
      have hmj : m < j := by
        apply Nat.lt_of_not_le; intro hle
        have hlt2 : slt (W p) (W s) := by rw [a3]; exact slt_more _ _
        rcases Nat.lt_or_eq_of_le hle with hlt | e2
        · have := List.pairwise_iff_getElem.1 h.rise j m hjl hm hlt
          rw [(List.getElem?_eq_some_iff.1 hj).2, e] at this
          exact slt_irrefl _ (slt_trans this hlt2)
        · subst e2
          rw [List.getElem?_eq_getElem hm, e] at hj
          cases hj; exact slt_irrefl _ hlt2
      have := ih m hmj p (by rw [List.getElem?_eq_getElem hm, e])
      rw [a3]; simp; omega
end Rp
end
