/- Classes of bytes: sets that share no byte. slices.SortFunc over a row of sets: how the shelf's contract meets a row of one's own. The order of sets is a strict order that parts any two sets that are not one. -/
import Derived.Test.YtmfijgigfianeaaGreatGrBase
import Derived.Shelf.SlSortCmp.NoneTotal
import Derived.Test.YtmfijgigfianeaaGreatGrSets
section
set_option linter.unusedVariables false
set_option linter.unusedSimpArgs false
namespace Rp
def stepPart (s p : BSet) : List BSet := ([p &&& s, p &&& ~~~ s]).filter (· ≠ 0#256)
def refineP (parts : List BSet) (s : BSet) : List BSet := parts.flatMap (stepPart s)
def rawParts (l : List BSet) : List BSet := l.foldl refineP [BitVec.allOnes 256]
theorem rawParts_snoc (l : List BSet) (s : BSet) : rawParts (l ++ [s]) = refineP (rawParts l) s := by simp [rawParts]
theorem rawParts_take (l : List BSet) (k : Nat) (h : k < l.length) : rawParts (l.take (k + 1)) = refineP (rawParts (l.take k)) l[k] := by
  rw [List.take_succ_eq_append_getElem h, rawParts_snoc]
theorem refineP_take (l : List BSet) (s : BSet) (k : Nat) (h : k < l.length) : refineP (l.take (k + 1)) s = refineP (l.take k) s ++ stepPart s l[k] := by
  rw [List.take_succ_eq_append_getElem h]; unfold refineP; rw [List.flatMap_append, List.flatMap_singleton]
/-- No two share a byte, none is empty. -/
def Disj (ps : List BSet) : Prop := (∀ p ∈ ps, p ≠ 0#256) ∧ ps.Pairwise (fun a b => a &&& b = 0#256)
theorem Disj.take {ps : List BSet} (h : Disj ps) (j : Nat) : Disj (ps.take j) := ⟨fun p hp => h.1 p (List.mem_of_mem_take hp), h.2.sublist (List.take_sublist _ _)⟩
theorem and_zero {a b : BSet} (h : a &&& b = 0#256) (c : Nat) : ¬ (a.getLsbD c = true ∧ b.getLsbD c = true) := by
  intro hc
  have := congrArg (BitVec.getLsbD · c) h
  simp [hc.1, hc.2] at this
theorem zero_and {a b : BSet} (h : ∀ c, c < 256 → ¬ (a.getLsbD c = true ∧ b.getLsbD c = true)) : a &&& b = 0#256 := by
  apply BitVec.eq_of_getLsbD_eq; intro c hc
  have := h c hc
  rw [BitVec.getLsbD_and]
  cases h1 : a.getLsbD c <;> cases h2 : b.getLsbD c <;> simp_all
theorem ne_zero {p : BSet} (h : p ≠ 0#256) : ∃ c, c < 256 ∧ p.getLsbD c = true := by
  apply Classical.byContradiction; intro hn
  apply h
  apply BitVec.eq_of_getLsbD_eq; intro c hc
  cases h1 : p.getLsbD c with
  | false => simp
  | true => exact absurd ⟨c, hc, h1⟩ hn
theorem countP_or {α : Type} (p q : α → Bool) : ∀ L : List α, (∀ c ∈ L, ¬ (p c = true ∧ q c = true)) → L.countP (fun c => p c || q c) = L.countP p + L.countP q
  | [], _ => rfl
  | c :: L, h => by
    have h1 := countP_or p q L fun d hd => h d (List.mem_cons_of_mem _ hd)
    have h2 := h c List.mem_cons_self
    rw [List.countP_cons, List.countP_cons, List.countP_cons, h1]
    cases hp : p c <;> cases hq : q c <;> simp_all <;> omega
theorem disj_count : ∀ ps : List BSet, Disj ps → ps.length ≤ (List.range 256).countP (fun c => ps.any fun p => p.getLsbD c)
  | [], _ => Nat.zero_le _
  | p :: ps, h => by
    have ih := disj_count ps ⟨fun q hq => h.1 q (List.mem_cons_of_mem _ hq), (List.pairwise_cons.1 h.2).2⟩
    have e : (fun c => (p :: ps).any fun p => p.getLsbD c) = fun c => p.getLsbD c || (ps.any fun p => p.getLsbD c) := by funext c; simp
    rw [e, countP_or]
    · obtain ⟨c, hc, hpc⟩ := ne_zero (h.1 p List.mem_cons_self)
      have : 0 < (List.range 256).countP (fun c => p.getLsbD c) := List.countP_pos_iff.2 ⟨c, List.mem_range.2 hc, hpc⟩
      rw [List.length_cons]; exact Nat.add_comm 1 _ ▸ Nat.add_le_add this ih
    · rintro c - ⟨h1, h2⟩
      obtain ⟨q, hq, hqc⟩ := List.any_eq_true.1 h2
      exact and_zero ((List.pairwise_cons.1 h.2).1 q hq) c ⟨h1, hqc⟩
theorem Disj.length {ps : List BSet} (h : Disj ps) : ps.length ≤ 256 := by
  refine Nat.le_trans (disj_count ps h) ?_
  refine Nat.le_trans List.countP_le_length ?_
  simp
theorem mem_stepPart {s p q : BSet} : q ∈ stepPart s p ↔ q ≠ 0#256 ∧ (q = p &&& s ∨ q = p &&& ~~~ s) := by
  unfold stepPart; rw [List.mem_filter]; simp; exact And.comm
theorem step_sub {s p q : BSet} (h : q ∈ stepPart s p) (c : Nat) (hc : q.getLsbD c = true) : p.getLsbD c = true := by
  rcases (mem_stepPart.1 h).2 with rfl | rfl
  · rw [BitVec.getLsbD_and] at hc; simp at hc; exact hc.1
  · rw [BitVec.getLsbD_and] at hc; simp at hc; exact hc.1
theorem disj_step (s p : BSet) : (stepPart s p).Pairwise (fun a b => a &&& b = 0#256) := by
  unfold stepPart
  refine List.Pairwise.filter _ ?_
  rw [List.pairwise_cons]
  refine ⟨?_, List.pairwise_singleton _ _⟩
  intro b hb
  rw [List.mem_singleton.1 hb]
  apply zero_and; rintro c hc ⟨h1, h2⟩
  rw [BitVec.getLsbD_and] at h1 h2; simp at h1 h2
  rw [h1.2] at h2; simp at h2
theorem disj_refine {ps : List BSet} (h : Disj ps) (s : BSet) : Disj (refineP ps s) := by
  refine ⟨fun q hq => ?_, ?_⟩
  · obtain ⟨p, hp, hqp⟩ := List.mem_flatMap.1 hq
    exact (mem_stepPart.1 hqp).1
  · unfold refineP
    rw [List.pairwise_flatMap]
    refine ⟨fun p hp => disj_step s p, h.2.imp ?_⟩
    intro a b hab x hx y hy
    apply zero_and; rintro c hc ⟨h1, h2⟩
    exact and_zero hab c ⟨step_sub hx c h1, step_sub hy c h2⟩
theorem disj_raw (l : List BSet) : Disj (rawParts l) := by
  unfold rawParts
  have key : ∀ (l : List BSet) (ps : List BSet), Disj ps → Disj (l.foldl refineP ps) := by
    intro l
    induction l with
    | nil => exact fun ps h => h
    | cons s l ih => exact fun ps h => ih _ (disj_refine h s)
  refine key l _ ⟨fun p hp => ?_, List.pairwise_singleton _ _⟩
  rw [List.mem_singleton.1 hp]; decide
/-- Each byte is in one of them. -/
theorem raw_cover (l : List BSet) (c : Nat) (hc : c < 256) : ∃ p ∈ rawParts l, p.getLsbD c = true := by
  unfold rawParts
  have key : ∀ (l : List BSet) (ps : List BSet), (∃ p ∈ ps, p.getLsbD c = true) → ∃ p ∈ l.foldl refineP ps, p.getLsbD c = true := by
    intro l
    induction l with
    | nil => exact fun ps h => h
    | cons s l ih =>
      rintro ps ⟨p, hp, hpc⟩
      refine ih _ ?_
      have hm : ∀ q, q ≠ 0#256 → (q = p &&& s ∨ q = p &&& ~~~ s) → q ∈ refineP ps s := fun q h1 h2 => List.mem_flatMap.2 ⟨p, hp, mem_stepPart.2 ⟨h1, h2⟩⟩
      cases hs : s.getLsbD c with
      | true =>
        have hb : (p &&& s).getLsbD c = true := by simp only [BitVec.getLsbD_and, hpc, hs, Bool.and_self]
        exact ⟨p &&& s, hm _ (fun h => by rw [h] at hb; simp at hb) (.inl rfl), hb⟩
      | false =>
        have hb : (p &&& ~~~ s).getLsbD c = true := by simp only [BitVec.getLsbD_and, BitVec.getLsbD_not, hpc, hs, hc, decide_true, Bool.not_false, Bool.and_self]
        exact ⟨p &&& ~~~ s, hm _ (fun h => by rw [h] at hb; simp at hb) (.inr rfl), hb⟩
  exact key l _ ⟨_, List.mem_singleton.2 rfl, by rw [BitVec.getLsbD_allOnes]; simpa using hc⟩
theorem raw_pos (l : List BSet) : 0 < (rawParts l).length := by
  obtain ⟨p, hp, _⟩ := raw_cover l 0 (by omega)
  exact List.length_pos_of_mem hp
theorem ref_len {ps : List BSet} (h : Disj ps) (s : BSet) (j : Nat) : (refineP (ps.take j) s).length ≤ 256 := (disj_refine (h.take j) s).length
end Rp
end

section
set_option linter.unusedVariables false
set_option linter.unusedSimpArgs false
namespace Rp
open Go Go.RowKit Go.Proofs Go.Sort Go.Lib Go.Shelf
abbrev encS (s : BSet) : List Value := (setC s).toList
theorem encS_len (s : BSet) : (encS s).length = 4 := rfl
theorem encS_one (s : BSet) : ∀ v ∈ encS s, v.oneCell' = true := Kset.one (w := default) (F := fun _ => True) (x := s) rfl
theorem ext_grow {W w' : World} (h : Ext W w') : ∃ q os, w' = Go.Sort.grow (W.drewN q) os := by
  refine ⟨w'.drawn - W.drawn, w'.heap.extract W.heap.size w'.heap.size, ?_⟩
  have hh : w'.heap = W.heap ++ w'.heap.extract W.heap.size w'.heap.size := by
    apply Array.ext_getElem?
    intro i
    by_cases hi : i < W.heap.size
    · rw [Array.getElem?_append_left hi]; exact h.below.block i hi
    · rw [Array.getElem?_append_right (by omega), Array.getElem?_extract]
      have := h.size
      split
      · congr 1; omega
      · rw [Array.getElem?_eq_none (by omega)]
  have e1 := h.below.os
  have e2 := h.below.tape
  have e3 := h.below.output
  have e4 := h.drawn
  cases W; cases w'
  simp only [Go.Sort.grow, World.drewN] at *
  simp only [World.mk.injEq]
  exact ⟨hh, e2, by omega, e1, e3⟩
theorem flat_reps : ∀ {w : World} {F : Nat → Prop} {ps : List BSet} {inner : List Value}, Reps (Kset.R w F) 4 ps inner → inner = ps.flatMap encS
  | _, _, [], inner, h => h
  | w, F, p :: ps, inner, ⟨c, r, e, hc, hp, hr⟩ => by rw [e, List.flatMap_cons, ← flat_reps hr]; exact congrArg (· ++ r) hp
theorem reps_flat {w : World} {F : Nat → Prop} : ∀ (ps : List BSet), Reps (Kset.R w F) 4 ps (ps.flatMap encS)
  | [] => rfl
  | p :: ps => ⟨encS p, ps.flatMap encS, by rw [List.flatMap_cons], rfl, rfl, reps_flat ps⟩
theorem flat_get : ∀ (ps : List BSet) (i j : Nat) (h : i < ps.length), j < 4 → (ps.flatMap encS)[i * 4 + j]? = (encS ps[i])[j]?
  | p :: ps, 0, j, h, hj => by rw [List.flatMap_cons, Nat.zero_mul, Nat.zero_add, List.getElem?_append_left (by exact hj)]; rfl
  | p :: ps, i + 1, j, h, hj => by
    rw [List.flatMap_cons, List.getElem?_append_right (by rw [encS_len]; omega), encS_len, show (i + 1) * 4 + j - 4 = i * 4 + j by omega]
    simpa using flat_get ps i j (by simpa using h) hj
theorem flat_len (ps : List BSet) : (ps.flatMap encS).length = ps.length * 4 := (reps_flat (w := default) (F := fun _ => True) ps).length
theorem flatK_toList (ps : List BSet) : (flatK encS 4 ps.toArray).toList = ps.flatMap encS := by
  apply List.ext_getElem?
  intro t
  rw [Array.getElem?_toList]
  by_cases ht : t < ps.length * 4
  · have hq : t / 4 < ps.length := by omega
    have h1 := flat_get ps (t / 4) (t % 4) hq (Nat.mod_lt _ (by omega))
    rw [show t / 4 * 4 + t % 4 = t by omega] at h1
    rw [h1]
    simp only [flatK, Array.getElem?_map, List.size_toArray]
    rw [Array.getElem?_eq_getElem (by simpa using ht)]
    simp only [Option.map_some, Array.getElem_range]
    rw [getElem!_pos ps.toArray (t / 4) (by simpa using hq)]
    simp only [List.getElem_toArray]
    have h4 : t % 4 < (encS ps[t / 4]).length := Nat.mod_lt _ (by omega)
    rw [List.getElem?_eq_getElem h4, getElem!_pos (encS ps[t / 4]) (t % 4) h4]
  · rw [List.getElem?_eq_none (by rw [flat_len]; omega), Array.getElem?_eq_none (by simp [flatK]; omega)]
theorem flatK_size (ps : List BSet) : (flatK encS 4 ps.toArray).size = ps.length * 4 := by simp [flatK]
theorem holds_sets {e : TypeId} {w : World} {base g cap : Nat} {F : Nat → Prop} {ps : List BSet} {n : Nat} (h : OwnS Kset e w base F (.slice (some ⟨g, 0, none⟩) n cap) ps) : HoldsK encS 4 w g 0 ps.toArray := by
  obtain ⟨hF, inner, ho, hr⟩ := h
  have hin := flat_reps hr
  subst hin
  intro j hj
  rw [flatK_size] at hj
  refine ⟨?_, ?_⟩
  · have h1 : (ps.flatMap encS)[j]? = some ((flatK encS 4 ps.toArray)[j]!) := by
      rw [← flatK_toList, Array.getElem?_toList, Array.getElem?_eq_getElem (by rw [flatK_size]; exact hj), getElem!_pos _ _ (by rw [flatK_size]; exact hj)]
    have := ho.cells (g := g) rfl j _ h1
    rw [Addr.add_lit] at this
    exact this
  · rcases ho.2 with ⟨hv, _⟩ | ⟨g', cap', cur, hv, _, hh, _⟩
    · cases hv
    · injection hv with ha; injection ha with ha; injection ha with ha
      subst ha
      simp [World.frozen?, hh]
theorem own_sorted {e : TypeId} {w : World} {base g cap n m : Nat} {F : Nat → Prop} {ps ts : List BSet} {os : Array Obj} (h : OwnS Kset e w base F (.slice (some ⟨g, 0, none⟩) n cap) ps) (hl : ts.length = ps.length) :
    OwnS Kset e (sortWorldK encS 4 w g 0 m ts.toArray os) base F (.slice (some ⟨g, 0, none⟩) n cap) ts ∧ Mov w (sortWorldK encS 4 w g 0 m ts.toArray os) (some g) (some g) := by
  obtain ⟨hF, inner, ho, hr⟩ := h
  rcases ho.2 with ⟨hv, _⟩ | ⟨g', cap', cur, hv, hb, hh, hnc, hcm, hcs, htk⟩
  · cases hv
  injection hv with ha hn hcap
  injection ha with ha; injection ha with ha
  subst ha; subst hcap; subst hn
  have hg : g < w.heap.size := (Array.getElem?_eq_some_iff.1 hh).1
  have hheap : (sortWorldK encS 4 w g 0 m ts.toArray os).heap[g]? = some (.cells (Go.Sort.putCells id 0 (flatK encS 4 ts.toArray) cur) e (0, 0)) := by
    unfold sortWorldK putRowK
    rw [Go.Sort.heap_grow_old _ _ (by simpa [Go.Sort.putRow, Go.Sort.mapBlock, Go.Sort.ahead] using hg)]
    simp [Go.Sort.putRow, Go.Sort.mapBlock, Go.Sort.ahead, Array.getElem?_modify, hh, Go.Sort.onCells]
  have hblk : ∀ k, k < w.heap.size → some k ≠ some g → (sortWorldK encS 4 w g 0 m ts.toArray os).heap[k]? = w.heap[k]? := by
    intro k hk hne
    unfold sortWorldK putRowK
    rw [Go.Sort.heap_grow_old _ _ (by simpa [Go.Sort.putRow, Go.Sort.mapBlock, Go.Sort.ahead] using hk)]
    have : g ≠ k := fun e => hne (by rw [e])
    simp [Go.Sort.putRow, Go.Sort.mapBlock, Go.Sort.ahead, Array.getElem?_modify, this]
  refine ⟨⟨hF, ts.flatMap encS, ⟨by rw [flat_len, hl]; rfl, .inr ⟨g, cap, _, by rw [hl], hb, hheap, by rw [hl]; exact hnc, hcm, by simp [Go.Sort.putCells, hcs], ?_⟩⟩, reps_flat ts⟩, ⟨rfl, rfl, rfl, ?_, hblk, .inl rfl⟩⟩
  · show List.take (ts.length * 4) _ = _
    have hle : ts.length * 4 ≤ cur.size := by rw [hcs, hl]; exact Nat.mul_le_mul_right _ hnc
    rw [← flatK_toList]
    apply List.ext_getElem?
    intro j
    by_cases hj : j < ts.length * 4
    · rw [List.getElem?_take_of_lt hj, Array.getElem?_toList, Array.getElem?_toList]
      have h2 : j < (flatK encS 4 ts.toArray).size := by rw [flatK_size]; exact hj
      rw [Array.getElem?_eq_getElem h2, ← getElem!_pos (flatK encS 4 ts.toArray) j h2]
      simp [Go.Sort.putCells, hj, show j < cur.size by omega]
    · rw [List.getElem?_take_eq_none (by omega), List.getElem?_eq_none (by rw [Array.length_toList, flatK_size]; omega)]
  · simp [sortWorldK, putRowK, Go.Sort.putRow, Go.Sort.mapBlock, Go.Sort.ahead, Go.Sort.grow]
end Rp
end

section
set_option linter.unusedVariables false
set_option linter.unusedSimpArgs false
namespace Go.Proofs
open Go.RowKit Go.Shelf Rp Go.Sort
theorem firstB_none {s : BSet} (h : (firstB s).2 = false) : s = 0#256 := by
  apply Classical.byContradiction; intro hs
  obtain ⟨c, hc, hb⟩ := ne_zero hs
  unfold firstB at h
  have hm : UInt8.ofNat c ∈ bytesL s := List.mem_map.2 ⟨c, List.mem_filter.2 ⟨List.mem_range.2 hc, hb⟩, rfl⟩
  cases hl : bytesL s with
  | nil => rw [hl] at hm; cases hm
  | cons x r => rw [hl] at h; cases h
theorem firstB_some {s : BSet} (h : (firstB s).2 = true) : s.getLsbD (firstB s).1.toNat = true ∧ ∀ d, d < (firstB s).1.toNat → s.getLsbD d = false := by
  unfold firstB at h ⊢
  have e : bytesL s = ((List.range 256).filter fun c => s.getLsbD c).map UInt8.ofNat := rfl
  cases hl : (List.range 256).filter fun c => s.getLsbD c with
  | nil => rw [hl] at e; rw [e] at h; cases h
  | cons c r =>
    rw [hl] at e
    have hh : ((List.range 256).filter fun c => s.getLsbD c).head? = some c := by rw [hl]; rfl
    rw [List.head?_filter, List.find?_range_eq_some] at hh
    obtain ⟨h1, h2, h3⟩ := hh
    have hc : c < 256 := List.mem_range.1 h2
    have ht : (UInt8.ofNat c).toNat = c := by simp [Nat.mod_eq_of_lt hc]
    rw [e, List.map_cons]; dsimp only
    rw [ht]
    exact ⟨h1, fun d hd => by have := h3 d hd; simpa using this⟩
theorem first_lt (s : BSet) : (firstB s).1.toNat < 256 := (firstB s).1.toNat_lt
def LessB (a b : BSet) : Prop := ∃ c, c < 256 ∧ a.getLsbD c = true ∧ b.getLsbD c = false ∧ ∀ d, d < c → a.getLsbD d = b.getLsbD d
theorem diff_bit (a b : BSet) (c : Nat) (hc : c < 256) : ((a &&& ~~~ b) ||| (b &&& ~~~ a)).getLsbD c = (a.getLsbD c != b.getLsbD c) := by
  simp only [BitVec.getLsbD_or, BitVec.getLsbD_and, BitVec.getLsbD_not, hc, decide_true, Bool.true_and]
  cases a.getLsbD c <;> cases b.getLsbD c <;> rfl
theorem lt_iff (a b : BSet) : ltOf cmpB a b = true ↔ LessB a b := by
  unfold ltOf cmpB
  rw [decide_eq_true_iff]
  cases h2 : (firstB ((a &&& ~~~ b) ||| (b &&& ~~~ a))).2 with
  | false =>
    have h0 := firstB_none h2
    simp only [Bool.false_eq_true, if_false]
    refine ⟨fun h => by omega, ?_⟩
    rintro ⟨c, hc, h1, h3, _⟩
    have := diff_bit a b c hc
    rw [h0, h1, h3] at this; simp at this
  | true =>
    obtain ⟨h3, h4⟩ := firstB_some h2
    have hx := first_lt ((a &&& ~~~ b) ||| (b &&& ~~~ a))
    generalize (firstB ((a &&& ~~~ b) ||| (b &&& ~~~ a))).1.toNat = x at *
    rw [diff_bit _ _ _ hx] at h3
    have h5 : ∀ d, d < x → a.getLsbD d = b.getLsbD d := fun d hd => by
      have := h4 d hd
      rw [diff_bit _ _ _ (by omega)] at this
      simpa using this
    cases ha : a.getLsbD x with
    | true =>
      simp only [if_true]
      refine ⟨fun _ => ⟨x, hx, ha, ?_, h5⟩, fun _ => by omega⟩
      rw [ha] at h3; simpa using h3
    | false =>
      simp only [Bool.false_eq_true, if_true, if_false]
      refine ⟨fun h => by omega, ?_⟩
      rintro ⟨c, hc, h1, h6, h7⟩
      have hb : b.getLsbD x = true := by rw [ha] at h3; simpa using h3
      rcases Nat.lt_trichotomy c x with h | h | h
      · rw [h5 c h, h6] at h1; cases h1
      · subst h; rw [ha] at h1; cases h1
      · have := h7 x h; rw [ha, hb] at this; cases this
theorem lt_tot (a b : BSet) : ltOf cmpB a b = true ∨ ltOf cmpB b a = true ∨ a = b := by
  by_cases hab : a = b
  · exact .inr (.inr hab)
  · have hex : ∃ c, c < 256 ∧ a.getLsbD c ≠ b.getLsbD c := by
      apply Classical.byContradiction; intro hn
      exact hab (BitVec.eq_of_getLsbD_eq fun c hc => Classical.byContradiction fun hne => hn ⟨c, hc, hne⟩)
    obtain ⟨c, hc, hmin⟩ := exists_least hex
    have h7 : ∀ d, d < c → a.getLsbD d = b.getLsbD d := fun d hd => Classical.byContradiction fun hne => by have := hmin d ⟨by omega, hne⟩; omega
    cases h1 : a.getLsbD c with
    | true => exact .inl ((lt_iff a b).2 ⟨c, hc.1, h1, by have := hc.2; rw [h1] at this; simpa using this, h7⟩)
    | false => exact .inr (.inl ((lt_iff b a).2 ⟨c, hc.1, by have := hc.2; rw [h1] at this; simpa using this, h1, fun d hd => (h7 d hd).symm⟩))
theorem lt_trans' (x y z : BSet) (h1 : ltOf cmpB x y = true) (h2 : ltOf cmpB y z = true) : ltOf cmpB x z = true := by
  rw [lt_iff] at *
  obtain ⟨c, hc, c1, c2, c3⟩ := h1
  obtain ⟨d, hd, d1, d2, d3⟩ := h2
  rcases Nat.lt_trichotomy c d with h | h | h
  · exact ⟨c, hc, c1, by rw [← d3 c h]; exact c2, fun e he => (c3 e he).trans (d3 e (by omega))⟩
  · subst h; rw [d1] at c2; cases c2
  · exact ⟨d, hd, by rw [c3 d h]; exact d1, d2, fun e he => (c3 e (by omega)).trans (d3 e he)⟩
theorem lt_irrefl' (x : BSet) : ltOf cmpB x x = false := by
  cases h : ltOf cmpB x x with
  | false => rfl
  | true => obtain ⟨c, _, h1, h2, _⟩ := (lt_iff x x).1 h; rw [h1] at h2; cases h2
theorem cmp_swo : SWO (ltOf cmpB) where
  irrefl := lt_irrefl'
  trans := lt_trans'
  ntrans x y z h1 h2 := by
    cases h3 : ltOf cmpB x z with
    | false => rfl
    | true =>
      rcases lt_tot x y with h | h | h
      · rw [h] at h1; cases h1
      · have := lt_trans' y x z h h3; rw [this] at h2; cases h2
      · subst h; rw [h3] at h2; cases h2
theorem cmp_tot (x y : BSet) (h1 : ltOf cmpB x y = false) (h2 : ltOf cmpB y x = false) : x = y := by
  rcases lt_tot x y with h | h | h
  · rw [h] at h1; cases h1
  · rw [h] at h2; cases h2
  · exact h
/-- The classes into which sets part all bytes, in order. -/
def partsB (l : List BSet) : List BSet := (rawParts l).mergeSort fun x y => !(ltOf cmpB) y x
theorem cmp_lays (blk off size : Nat) (w : World) : CmpLays Tryz.prog 82 #[] encS 4 cmpB blk off size w := by
  intro m os dk _ x y
  refine (c_compare x y _).mono ?_
  rintro e w' ⟨rfl, hE⟩
  exact ⟨rfl, ext_grow hE⟩
theorem enters_compare : ∀ args w, (callFunc 82 args).run Tryz.prog w = .ok (.enter 82 args) w := fun args w => by kernel_rfl
theorem isAgg_set : ∀ w, (isAgg 33).run Tryz.prog w = .ok true w := fun w => by kernel_rfl
end Go.Proofs
end
