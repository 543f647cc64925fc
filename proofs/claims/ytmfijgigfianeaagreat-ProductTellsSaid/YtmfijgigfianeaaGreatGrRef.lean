/- product.Of, whole: what it returns, in plain words. The classes of bytes by their least bytes; they are the parts that the program makes. Classes of right automata, by number and by byte. Strings by length and then byte by byte; the first string that an automaton accepts. -/
import Derived.Test.YtmfijgigfianeaaGreatGrOfM
import Derived.Test.YtmfijgigfianeaaGreatGrOf
section
set_option linter.unusedVariables false
set_option linter.unusedSimpArgs false
namespace Go.Proofs
open Go.RowKit Go.Shelf Rp Go.Maps
theorem errB_ofB {a b : Dfa} {op : Nat} {fuel : Int} {n : Int} (h : errB a b op fuel = some n) : ofB a b op fuel = (noDfa, n) := by
  unfold errB at h; unfold ofB
  split at h
  · rename_i h1; cases h; rw [if_pos h1]; rfl
  · rename_i h1
    rw [if_neg h1]
    split at h
    · rename_i h2; cases h; rw [if_pos h2]; rfl
    · rename_i h2
      rw [if_neg h2]
      split at h
      · rename_i h3; cases h; rw [if_pos h3]; rfl
      · rename_i h3
        rw [if_neg h3]
        split at h
        · rename_i h4; cases h; rw [if_pos h4]; rfl
        · cases h
theorem _root_.Rp.DfaR.q {w : World} {F : Nat → Prop} {h : DA} {d : Dfa} (r : DfaR w F h d) : DfaQ w F h.A1 h.c1 h.A2 h.c2 h.A3 h.c3 d := ⟨r.s1, r.s2, r.s3, r.l1, r.m1⟩
theorem DfaQ.mono {w : World} {F G : Nat → Prop} {A1 A2 A3 : Option Addr} {k1 k2 k3 : Nat} {d : Dfa} (h : DfaQ w F A1 k1 A2 k2 A3 k3 d) (hm : ∀ b, F b → G b) : DfaQ w G A1 k1 A2 k2 A3 k3 d :=
  ⟨h.s1.mono hm, h.s2.mono hm, h.s3.mono hm, h.l1, h.m1⟩
theorem c_of (ha hb : DA) (a b : Dfa) (op : Nat) (fuel : Int) (F G : Nat → Prop) (w : World) (hop : op < 256) (hra : DfaR w F ha a) (hrb : DfaR w G hb b) :
    Calls Tryz.prog 19 #[dfaV ha a, dfaV hb b, .int .u8 (op : Int), .int .i64 fuel] w
      fun e w' => ∃ h', e = .returned (.tuple #[dfaV h' (ofB a b op fuel).1, .int .i64 (ofB a b op fuel).2]) ∧ DfaO w' w.heap.size h' (ofB a b op fuel).1 ∧ Below w.heap.size w w' := by
  have qa := hra.q.mono (G := fun _ => True) fun _ _ => trivial
  have qb := hrb.q.mono (G := fun _ => True) fun _ _ => trivial
  cases he : errB a b op fuel with
  | none => exact c_of_main _ _ _ _ _ _ _ _ _ _ _ _ a b op fuel _ w hop qa qb he
  | some n =>
    refine (c_of_wrong _ _ _ _ _ _ _ _ _ _ _ _ a b op fuel _ w hop qa qb n he).mono ?_
    rintro e w' ⟨rfl, hB⟩
    exact ⟨nilDA, by rw [errB_ofB he], by rw [errB_ofB he]; exact noDfaO _ _, hB⟩
end Go.Proofs
end

section
set_option linter.unusedVariables false
set_option linter.unusedSimpArgs false
namespace Rp
open Go.Proofs Go.Shelf
/-- The bytes below a number that are wanted, as a set. -/
def setTo (p : Nat → Bool) : Nat → BSet
  | 0 => 0#256
  | k + 1 => if p k then setTo p k ||| (1#256 <<< k) else setTo p k
theorem bit_one (k c : Nat) (hc : c < 256) : (1#256 <<< k).getLsbD c = decide (c = k) := by
  rw [BitVec.getLsbD_shiftLeft, BitVec.getLsbD_one]
  rw [Bool.eq_iff_iff]; simp; omega
theorem setTo_bit (p : Nat → Bool) (c : Nat) (hc : c < 256) : ∀ k, (setTo p k).getLsbD c = (decide (c < k) && p c)
  | 0 => by simp [setTo]
  | k + 1 => by
    have ih := setTo_bit p c hc k
    unfold setTo
    split
    · rename_i h
      rw [BitVec.getLsbD_or, ih, bit_one _ _ hc]
      by_cases e : c = k
      · subst e; simp [h]
      · have : (c < k + 1) = (c < k) := by rw [eq_iff_iff]; omega
        simp [e, this]
    · rename_i h
      rw [ih]
      by_cases e : c = k
      · subst e; simp [h]
      · have : (c < k + 1) = (c < k) := by rw [eq_iff_iff]; omega
        simp [this]
theorem set_ext {s t : BSet} (h : ∀ c, c < 256 → s.getLsbD c = t.getLsbD c) : s = t := BitVec.eq_of_getLsbD_eq h
/-- No set tells two bytes apart. -/
def sameB (l : List BSet) (c d : Nat) : Bool := l.all fun s => s.getLsbD c == s.getLsbD d
theorem sameB_iff {l : List BSet} {c d : Nat} : sameB l c d = true ↔ ∀ s ∈ l, s.getLsbD c = s.getLsbD d := by
  unfold sameB; rw [List.all_eq_true]
  exact ⟨fun h s hs => by simpa using h s hs, fun h s hs => by simpa using h s hs⟩
theorem sameB_refl (l : List BSet) (c : Nat) : sameB l c c = true := sameB_iff.2 fun _ _ => rfl
theorem sameB_symm {l : List BSet} {c d : Nat} (h : sameB l c d = true) : sameB l d c = true := sameB_iff.2 fun s hs => (sameB_iff.1 h s hs).symm
theorem sameB_trans {l : List BSet} {c d e : Nat} (h : sameB l c d = true) (k : sameB l d e = true) : sameB l c e = true := sameB_iff.2 fun s hs => (sameB_iff.1 h s hs).trans (sameB_iff.1 k s hs)
/-- The least byte that no set tells from a byte. -/
def leastN (l : List BSet) (c : Nat) : Nat := ((List.range (c + 1)).find? fun d => sameB l c d).getD c
theorem leastN_spec (l : List BSet) (c : Nat) : leastN l c ≤ c ∧ sameB l c (leastN l c) = true ∧ ∀ d, d < leastN l c → sameB l c d = false := by
  unfold leastN
  cases hf : (List.range (c + 1)).find? fun d => sameB l c d with
  | none =>
    rw [List.find?_eq_none] at hf
    exact absurd (sameB_refl l c) (hf c (List.mem_range.2 (by omega)))
  | some d =>
    have h1 := List.find?_some hf
    have h2 := List.mem_range.1 (List.mem_of_find?_eq_some hf)
    refine ⟨by simp; omega, by simpa using h1, fun e he => ?_⟩
    simp only [Option.getD_some] at he
    have h3 := List.find?_range_eq_some.1 hf
    have h4 := h3.2.2 e he
    simpa using h4
theorem leastN_eq {l : List BSet} {c d : Nat} : leastN l c = leastN l d ↔ sameB l c d = true := by
  obtain ⟨a1, a2, a3⟩ := leastN_spec l c
  obtain ⟨b1, b2, b3⟩ := leastN_spec l d
  constructor
  · intro h; rw [h] at a2; exact sameB_trans a2 (sameB_symm b2)
  · intro h
    apply Nat.le_antisymm
    · apply Nat.le_of_not_lt; intro hlt
      have := a3 _ hlt
      rw [sameB_trans h b2] at this; cases this
    · apply Nat.le_of_not_lt; intro hlt
      have := b3 _ hlt
      rw [sameB_trans (sameB_symm h) a2] at this; cases this
def leastsN (l : List BSet) : List Nat := (List.range 256).filter fun c => leastN l c == c
/-- The class whose least byte is m. -/
def clsN (l : List BSet) (m : Nat) : BSet := setTo (fun d => leastN l d == m) 256
def refClasses (l : List BSet) : List BSet := (leastsN l).map (clsN l)
theorem clsN_bit (l : List BSet) (m c : Nat) (hc : c < 256) : (clsN l m).getLsbD c = (leastN l c == m) := by
  unfold clsN; rw [setTo_bit _ _ hc]; simp [hc]
theorem mem_leasts {l : List BSet} {m : Nat} : m ∈ leastsN l ↔ m < 256 ∧ leastN l m = m := by
  unfold leastsN; rw [List.mem_filter, List.mem_range]; simp
theorem leastN_least (l : List BSet) (c : Nat) : leastN l (leastN l c) = leastN l c := leastN_eq.2 (sameB_symm (leastN_spec l c).2.1)
/-- A set is a class of a list of sets. -/
def IsCls (l : List BSet) (q : BSet) : Prop := ∃ c, c < 256 ∧ ∀ d, d < 256 → q.getLsbD d = sameB l c d
theorem mem_refClasses {l : List BSet} {q : BSet} : q ∈ refClasses l ↔ IsCls l q := by
  unfold refClasses
  rw [List.mem_map]
  constructor
  · rintro ⟨m, hm, rfl⟩
    obtain ⟨h1, h2⟩ := mem_leasts.1 hm
    refine ⟨m, h1, fun d hd => ?_⟩
    rw [clsN_bit _ _ _ hd, Bool.eq_iff_iff, beq_iff_eq]
    constructor
    · intro h; exact leastN_eq.1 (h2.trans h.symm)
    · intro h; exact (leastN_eq.2 h).symm.trans h2
  · rintro ⟨c, hc, hq⟩
    have := (leastN_spec l c).1
    refine ⟨leastN l c, mem_leasts.2 ⟨by omega, leastN_least l c⟩, set_ext fun d hd => ?_⟩
    rw [clsN_bit _ _ _ hd, hq d hd, Bool.eq_iff_iff, beq_iff_eq]
    constructor
    · intro h; exact leastN_eq.1 h.symm
    · intro h; exact (leastN_eq.2 h).symm
theorem mem_rawParts : ∀ (k : Nat) {l : List BSet} {q : BSet}, k ≤ l.length → (q ∈ rawParts (l.take k) ↔ IsCls (l.take k) q)
  | 0, l, q, _ => by
    simp only [List.take_zero]
    have : rawParts [] = [BitVec.allOnes 256] := rfl
    rw [this, List.mem_singleton]
    constructor
    · rintro rfl
      exact ⟨0, by omega, fun d hd => by rw [BitVec.getLsbD_allOnes]; simp [sameB, hd]⟩
    · rintro ⟨c, _, h⟩
      exact set_ext fun d hd => by rw [h d hd, BitVec.getLsbD_allOnes]; simp [sameB, hd]
  | k + 1, l, q, hk => by
    have ih := fun q => mem_rawParts k (l := l) (q := q) (by omega)
    have hlt : k < l.length := by omega
    rw [rawParts_take l k hlt]
    have hsame : ∀ c d, sameB (l.take (k + 1)) c d = (sameB (l.take k) c d && (l[k].getLsbD c == l[k].getLsbD d)) := by
      intro c d
      rw [List.take_succ_eq_append_getElem hlt]; unfold sameB; rw [List.all_append]; simp
    generalize l[k] = s at *
    unfold refineP
    rw [List.mem_flatMap]
    constructor
    · rintro ⟨p, hp, hq⟩
      obtain ⟨hne, hq⟩ := mem_stepPart.1 hq
      obtain ⟨c', hc', hpc⟩ := (ih p).1 hp
      obtain ⟨c, hc, hqc⟩ := ne_zero hne
      refine ⟨c, hc, fun d hd => ?_⟩
      rw [hsame]
      have tr : sameB (l.take k) c' c = true → sameB (l.take k) c' d = sameB (l.take k) c d := by
        intro h; rw [Bool.eq_iff_iff]
        exact ⟨fun h2 => sameB_trans (sameB_symm h) h2, fun h2 => sameB_trans h h2⟩
      rcases hq with rfl | rfl
      · rw [BitVec.getLsbD_and, hpc c hc] at hqc
        rw [BitVec.getLsbD_and, hpc d hd]
        simp only [Bool.and_eq_true] at hqc
        rw [tr hqc.1, hqc.2]
        cases s.getLsbD d <;> simp
      · rw [BitVec.getLsbD_and, BitVec.getLsbD_not, hpc c hc] at hqc
        rw [BitVec.getLsbD_and, BitVec.getLsbD_not, hpc d hd]
        simp only [Bool.and_eq_true, hc, hd, decide_true, Bool.true_and, Bool.not_eq_true'] at hqc ⊢
        rw [tr hqc.1, hqc.2]
        cases s.getLsbD d <;> simp
    · rintro ⟨c, hc, hq⟩
      refine ⟨setTo (fun d => sameB (l.take k) c d) 256, (ih _).2 ⟨c, hc, fun d hd => by rw [setTo_bit _ _ hd]; simp [hd]⟩, mem_stepPart.2 ⟨?_, ?_⟩⟩
      · intro h0
        have := hq c hc
        rw [hsame, sameB_refl, h0] at this
        simp at this
      · cases hs : s.getLsbD c with
        | true =>
          refine .inl (set_ext fun d hd => ?_)
          rw [hq d hd, hsame, BitVec.getLsbD_and, setTo_bit _ _ hd, hs]
          simp [hd]
        | false =>
          refine .inr (set_ext fun d hd => ?_)
          rw [hq d hd, hsame, BitVec.getLsbD_and, BitVec.getLsbD_not, setTo_bit _ _ hd, hs]
          simp [hd]
theorem mem_raw {l : List BSet} {q : BSet} : q ∈ rawParts l ↔ IsCls l q := by
  have := mem_rawParts l.length (l := l) (q := q) (Nat.le_refl _)
  rwa [List.take_length] at this
theorem lessB_asymm {a b : BSet} (h : LessB a b) (k : LessB b a) : False := by
  have h1 := (lt_iff a b).2 h
  have h2 := (lt_iff b a).2 k
  have := lt_trans' a b a h1 h2
  rw [lt_irrefl'] at this; cases this
/-- Two lists that rise and hold the same are equal. -/
theorem rise_ext : ∀ {l1 l2 : List BSet}, l1.Pairwise LessB → l2.Pairwise LessB → (∀ q, q ∈ l1 ↔ q ∈ l2) → l1 = l2
  | [], [], _, _, _ => rfl
  | [], b :: l2, _, _, h => by have := (h b).2 List.mem_cons_self; simp at this
  | a :: l1, [], _, _, h => by have := (h a).1 List.mem_cons_self; simp at this
  | a :: l1, b :: l2, h1, h2, h => by
    obtain ⟨ha, h1'⟩ := List.pairwise_cons.1 h1
    obtain ⟨hb, h2'⟩ := List.pairwise_cons.1 h2
    have irr : ∀ x, ¬ LessB x x := fun x hx => lessB_asymm hx hx
    have e : a = b := by
      rcases List.mem_cons.1 ((h a).1 List.mem_cons_self) with e | m
      · exact e
      · rcases List.mem_cons.1 ((h b).2 List.mem_cons_self) with e' | m'
        · exact e'.symm
        · exact absurd (ha b m') fun k => lessB_asymm (hb a m) k
    subst e
    have : l1 = l2 := rise_ext h1' h2' fun q => by
      constructor
      · intro hq
        rcases List.mem_cons.1 ((h q).1 (List.mem_cons_of_mem _ hq)) with e | m
        · subst e; exact absurd (ha q hq) (irr q)
        · exact m
      · intro hq
        rcases List.mem_cons.1 ((h q).2 (List.mem_cons_of_mem _ hq)) with e | m
        · subst e; exact absurd (hb q hq) (irr q)
        · exact m
    rw [this]
theorem raw_nodup (l : List BSet) : (rawParts l).Pairwise (· ≠ ·) := by
  have h := disj_raw l
  have key : ∀ ps : List BSet, Disj ps → ps.Pairwise (· ≠ ·) := by
    intro ps hd
    induction ps with
    | nil => exact List.Pairwise.nil
    | cons p ps ih =>
      have h2 := List.pairwise_cons.1 hd.2
      refine List.pairwise_cons.2 ⟨fun q hq e => ?_, ih ⟨fun q hq => hd.1 q (List.mem_cons_of_mem _ hq), h2.2⟩⟩
      subst e
      have h3 := h2.1 p hq
      rw [BitVec.and_self] at h3
      exact hd.1 p List.mem_cons_self h3
  exact key _ h
theorem parts_mem {l : List BSet} {q : BSet} : q ∈ partsB l ↔ IsCls l q := by
  unfold partsB; rw [List.mem_mergeSort]; exact mem_raw
theorem parts_rise (l : List BSet) : (partsB l).Pairwise LessB := by
  have h1 : (partsB l).Pairwise fun x y => (!(ltOf cmpB) y x) = true := by
    unfold partsB
    refine List.pairwise_mergeSort (le := fun x y => !(ltOf cmpB) y x) ?_ ?_ _
    · intro a b c hab hbc
      simp only [Bool.not_eq_true'] at hab hbc ⊢
      rw [Bool.eq_false_iff]; intro hca
      rcases lt_tot b c with h | h | h
      · have := lt_trans' b c a h hca
        rw [hab] at this; cases this
      · rw [hbc] at h; cases h
      · subst h; rw [hab] at hca; cases hca
    · intro a b
      cases h : ltOf cmpB b a with
      | false => simp
      | true =>
        have : ltOf cmpB a b = false := by
          rw [Bool.eq_false_iff]; intro h2
          have := lt_trans' a b a h2 h
          rw [lt_irrefl'] at this; cases this
        simp [this]
  have h2 : (partsB l).Pairwise (· ≠ ·) := by
    unfold partsB
    exact (List.Perm.pairwise_iff (fun h => h.symm) (List.mergeSort_perm _ _)).2 (raw_nodup l)
  refine (h1.and h2).imp ?_
  rintro a b ⟨hab, hne⟩
  simp only [Bool.not_eq_true'] at hab
  rcases lt_tot a b with h | h | h
  · exact (lt_iff a b).1 h
  · rw [hab] at h; cases h
  · exact absurd h hne
theorem leasts_rise (l : List BSet) : (leastsN l).Pairwise (· < ·) := by
  unfold leastsN; exact List.Pairwise.filter _ List.pairwise_lt_range
theorem ref_rise (l : List BSet) : (refClasses l).Pairwise LessB := by
  unfold refClasses
  rw [List.pairwise_map]
  refine List.Pairwise.imp_of_mem ?_ (leasts_rise l)
  intro m1 m2 hm1 hm2 hlt
  obtain ⟨a1, a2⟩ := mem_leasts.1 hm1
  obtain ⟨b1, b2⟩ := mem_leasts.1 hm2
  refine ⟨m1, a1, ?_, ?_, fun d hd => ?_⟩
  · rw [clsN_bit _ _ _ a1, a2]; simp
  · rw [clsN_bit _ _ _ a1, a2]; simp; omega
  · have := (leastN_spec l d).1
    rw [clsN_bit _ _ _ (by omega), clsN_bit _ _ _ (by omega)]
    have e1 : (leastN l d == m1) = false := by simp; omega
    have e2 : (leastN l d == m2) = false := by simp; omega
    rw [e1, e2]
/-- The parts that the program makes are the classes in the order of their least bytes. -/
theorem parts_ref (l : List BSet) : partsB l = refClasses l :=
  rise_ext (parts_rise l) (ref_rise l) fun q => parts_mem.trans mem_refClasses.symm
end Rp
end

section
set_option linter.unusedVariables false
set_option linter.unusedSimpArgs false
namespace Rp
open Go.Proofs Go.Shelf
theorem mem_bytesL {s : BSet} {x : UInt8} : x ∈ bytesL s ↔ s.getLsbD x.toNat = true := by
  unfold bytesL bytesTo
  rw [List.mem_map]
  constructor
  · rintro ⟨c, hc, rfl⟩
    obtain ⟨h1, h2⟩ := List.mem_filter.1 hc
    have := List.mem_range.1 h1
    rwa [UInt8.toNat_ofNat_of_lt' (by simpa using this)]
  · intro h
    exact ⟨x.toNat, List.mem_filter.2 ⟨List.mem_range.2 x.toNat_lt, h⟩, by simp⟩
theorem tab_bytes (k c : Nat) (hc : c < 256) : ∀ (bs : List UInt8) (acc : Nat), (bs.map fun x => (k, x)).foldl (fun acc x => if x.2.toNat = c then x.1 % 256 else acc) acc = if UInt8.ofNat c ∈ bs then k % 256 else acc
  | [], acc => by simp
  | b :: bs, acc => by
    rw [List.map_cons, List.foldl_cons, tab_bytes k c hc bs]
    have e : (b.toNat = c) = (UInt8.ofNat c = b) := by
      rw [eq_iff_iff]
      constructor
      · rintro rfl; simp
      · rintro rfl; exact UInt8.toNat_ofNat_of_lt' (by simpa using hc)
    simp only [e, List.mem_cons]
    by_cases h1 : UInt8.ofNat c ∈ bs <;> by_cases h2 : UInt8.ofNat c = b <;> simp [h1, h2]
/-- The number of a byte's class. -/
def clsOf (l : List BSet) (c : Nat) : Nat := l.findIdx fun s => s.getLsbD c
theorem tab_to {l : List BSet} (hd : l.Pairwise (fun a b => a &&& b = 0#256)) (hl : l.length ≤ 256) (c : Nat) (hc : c < 256) : ∀ k, k ≤ l.length → (∀ i, i < k → (l.getD i 0#256).getLsbD c = false) ∧ tabF (pairsTo l k) c = 0 ∨ ∃ i, i < k ∧ (l.getD i 0#256).getLsbD c = true ∧ tabF (pairsTo l k) c = i
  | 0, _ => .inl ⟨fun i hi => by omega, by simp [pairsTo, tabF]⟩
  | k + 1, hk => by
    have ih := tab_to hd hl c hc k (by omega)
    have hlt : k < l.length := by omega
    have e : tabF (pairsTo l (k + 1)) c = if UInt8.ofNat c ∈ bytesL (l.getD k 0#256) then k % 256 else tabF (pairsTo l k) c := by
      rw [pairsTo_succ]; unfold tabF; rw [List.foldl_append, tab_bytes k c hc]
    have hm : (UInt8.ofNat c ∈ bytesL (l.getD k 0#256)) ↔ (l.getD k 0#256).getLsbD c = true := by
      rw [mem_bytesL, UInt8.toNat_ofNat_of_lt' (by simpa using hc)]
    rw [e]
    by_cases h : (l.getD k 0#256).getLsbD c = true
    · rw [if_pos (hm.2 h)]
      exact .inr ⟨k, by omega, h, by omega⟩
    · rw [if_neg fun x => h (hm.1 x)]
      rcases ih with ⟨h1, h2⟩ | ⟨i, h1, h2, h3⟩
      · refine .inl ⟨fun i hi => ?_, h2⟩
        rcases Nat.lt_or_eq_of_le (Nat.le_of_lt_succ hi) with h4 | h4
        · exact h1 i h4
        · subst h4; simpa using h
      · exact .inr ⟨i, by omega, h2, h3⟩
theorem disj_at {l : List BSet} (hd : l.Pairwise (fun a b => a &&& b = 0#256)) {i j c : Nat} (hi : i < l.length) (hj : j < l.length) (h1 : l[i].getLsbD c = true) (h2 : l[j].getLsbD c = true) : i = j := by
  rw [List.pairwise_iff_getElem] at hd
  rcases Nat.lt_trichotomy i j with h | h | h
  · exact absurd ⟨h1, h2⟩ (and_zero (hd i j hi hj h) c)
  · exact h
  · exact absurd ⟨h2, h1⟩ (and_zero (hd j i hj hi h) c)
theorem tab_cls {l : List BSet} (hd : l.Pairwise (fun a b => a &&& b = 0#256)) (hl : l.length ≤ 256) {c : Nat} (hc : c < 256) {i : Nat} (hi : i < l.length) (h : l[i].getLsbD c = true) : tabF (pairsOf l) c = i := by
  have h2 : (l.getD i 0#256).getLsbD c = true := by rw [List.getD_eq_getElem?_getD, List.getElem?_eq_getElem hi]; exact h
  rcases tab_to hd hl c hc l.length (Nat.le_refl _) with ⟨h1, _⟩ | ⟨j, h1, h3, h4⟩
  · rw [h1 i hi] at h2; cases h2
  · rw [List.getD_eq_getElem?_getD, List.getElem?_eq_getElem h1] at h3
    have : i = j := disj_at hd hi h1 h h3
    rw [this]; exact h4
theorem clsOf_at {l : List BSet} (hd : l.Pairwise (fun a b => a &&& b = 0#256)) {c i : Nat} (hi : i < l.length) (h : l[i].getLsbD c = true) : clsOf l c = i := by
  unfold clsOf
  have hlt : l.findIdx (fun s => s.getLsbD c) < l.length := List.findIdx_lt_length.2 ⟨l[i], List.getElem_mem hi, h⟩
  have := List.findIdx_getElem (w := hlt)
  exact disj_at hd hlt hi this h
theorem parts_disj (l : List BSet) : (partsB l).Pairwise (fun a b => a &&& b = 0#256) := by
  unfold partsB
  refine (List.Perm.pairwise_iff (fun {a b} h => ?_) (List.mergeSort_perm _ _)).2 (disj_raw l).2
  rw [BitVec.and_comm]; exact h
theorem parts_cover (l : List BSet) {c : Nat} (hc : c < 256) : ∃ i, ∃ hi : i < (partsB l).length, ((partsB l)[i]).getLsbD c = true := by
  obtain ⟨p, hp, hpc⟩ := raw_cover l c hc
  have : p ∈ partsB l := by unfold partsB; rw [List.mem_mergeSort]; exact hp
  obtain ⟨i, hi, rfl⟩ := List.getElem_of_mem this
  exact ⟨i, hi, hpc⟩
/-- The table's entry is the number of the class. -/
theorem tab_clsOf (l : List BSet) {c : Nat} (hc : c < 256) : tabF (pairsOf (partsB l)) c = clsOf (partsB l) c := by
  obtain ⟨i, hi, h⟩ := parts_cover l hc
  rw [tab_cls (parts_disj l) (parts_le l) hc hi h, clsOf_at (parts_disj l) hi h]
theorem clsOf_lt (l : List BSet) {c : Nat} (hc : c < 256) : clsOf (partsB l) c < (partsB l).length := by
  obtain ⟨i, hi, h⟩ := parts_cover l hc
  rw [clsOf_at (parts_disj l) hi h]; exact hi
theorem first_cls {l : List BSet} {m : Nat} (hm : m ∈ leastsN l) : (firstB (clsN l m)).1.toNat = m := by
  obtain ⟨h1, h2⟩ := mem_leasts.1 hm
  have hm' : (clsN l m).getLsbD m = true := by rw [clsN_bit _ _ _ h1, h2]; simp
  cases hf : (firstB (clsN l m)).2 with
  | false =>
    rw [firstB_none hf] at hm'; simp at hm'
  | true =>
    obtain ⟨a1, a2⟩ := firstB_some hf
    have hlt := first_lt (clsN l m)
    rw [clsN_bit _ _ _ hlt, beq_iff_eq] at a1
    have h3 := (leastN_spec l (firstB (clsN l m)).1.toNat).1
    apply Nat.le_antisymm
    · apply Nat.le_of_not_lt; intro hh
      rw [a2 m hh] at hm'; cases hm'
    · omega
theorem all_ref {a b : Dfa} (ha : rightB a = true) (hb : rightB b = true) : allB a b = refClasses (a.cls ++ b.cls) := by
  unfold allB; rw [right_parts ha, right_parts hb, parts_ref]
/-- Where a pair leads to, by a byte. -/
def nxtM (a b : Dfa) (p : PP) (m : Nat) : PP := (((a.next.getD p.1 []).getD (clsOf a.cls m) 0).toNat, ((b.next.getD p.2 []).getD (clsOf b.cls m) 0).toNat)
theorem nxt_ref {a b : Dfa} (ha : rightB a = true) (hb : rightB b = true) (p : PP) : (allB a b).map (nxtP a b p) = (leastsN (a.cls ++ b.cls)).map (nxtM a b p) := by
  rw [all_ref ha hb]; unfold refClasses
  rw [List.map_map]
  apply List.map_congr_left
  intro m hm
  have h := first_cls hm
  have hm1 := (mem_leasts.1 hm).1
  simp only [Function.comp, nxtP, nxtM, byN, h]
  rw [tab_clsOf _ hm1, tab_clsOf _ hm1, right_parts ha, right_parts hb]
end Rp
end

section
set_option linter.unusedVariables false
set_option linter.unusedSimpArgs false
namespace Rp
open Go.Proofs Go.Shelf
/-- Of lists of one length: the first byte that differs is less. -/
def lexL : List UInt8 → List UInt8 → Prop
  | a :: r, b :: t => a.toNat < b.toNat ∨ a = b ∧ lexL r t
  | _, _ => False
def slt (a b : List UInt8) : Prop := a.length < b.length ∨ a.length = b.length ∧ lexL a b
def sle (a b : List UInt8) : Prop := a = b ∨ slt a b
theorem lexL_irrefl : ∀ a, ¬ lexL a a
  | [], h => h
  | a :: r, h => by
    rcases h with h | h
    · omega
    · exact lexL_irrefl r h.2
theorem lexL_trans : ∀ {a b c : List UInt8}, lexL a b → lexL b c → lexL a c
  | a :: r, b :: t, c :: u, h, k => by
    rcases h with h | ⟨rfl, h⟩ <;> rcases k with k | ⟨rfl, k⟩
    · exact .inl (by omega)
    · exact .inl h
    · exact .inl k
    · exact .inr ⟨rfl, lexL_trans h k⟩
  | [], _, _, h, _ => h.elim
  | _ :: _, [], _, h, _ => h.elim
  | _ :: _, _ :: _, [], _, k => k.elim
theorem slt_irrefl (a : List UInt8) : ¬ slt a a := by
  rintro (h | h)
  · omega
  · exact lexL_irrefl a h.2
theorem slt_trans {a b c : List UInt8} (h : slt a b) (k : slt b c) : slt a c := by
  rcases h with h | ⟨h1, h2⟩ <;> rcases k with k | ⟨k1, k2⟩
  · exact .inl (by omega)
  · exact .inl (by omega)
  · exact .inl (by omega)
  · exact .inr ⟨by omega, lexL_trans h2 k2⟩
theorem sle_refl (a : List UInt8) : sle a a := .inl rfl
theorem sle_trans {a b c : List UInt8} (h : sle a b) (k : sle b c) : sle a c := by
  rcases h with rfl | h
  · exact k
  · rcases k with rfl | k
    · exact .inr h
    · exact .inr (slt_trans h k)
theorem slt_sle {a b c : List UInt8} (h : slt a b) (k : sle b c) : slt a c := by
  rcases k with rfl | k
  · exact h
  · exact slt_trans h k
theorem sle_slt {a b c : List UInt8} (h : sle a b) (k : slt b c) : slt a c := by
  rcases h with rfl | h
  · exact k
  · exact slt_trans h k
theorem sle_antisymm {a b : List UInt8} (h : sle a b) (k : sle b a) : a = b := by
  rcases h with h | h
  · exact h
  · exact absurd (slt_sle h k) (slt_irrefl a)
theorem lexL_snoc : ∀ {a b : List UInt8} (c e : UInt8), a.length = b.length → lexL a b → lexL (a ++ [c]) (b ++ [e])
  | a :: r, b :: t, c, e, hl, h => by
    rcases h with h | ⟨rfl, h⟩
    · exact .inl h
    · exact .inr ⟨rfl, lexL_snoc c e (by simpa using hl) h⟩
  | [], _, _, _, _, h => h.elim
  | _ :: _, [], _, _, _, h => h.elim
theorem lexL_last : ∀ (a : List UInt8) {c e : UInt8}, c.toNat < e.toNat → lexL (a ++ [c]) (a ++ [e])
  | [], c, e, h => .inl h
  | x :: r, c, e, h => .inr ⟨rfl, lexL_last r h⟩
theorem slt_snoc {a b : List UInt8} (c e : UInt8) (h : slt a b) : slt (a ++ [c]) (b ++ [e]) := by
  rcases h with h | ⟨h1, h2⟩
  · exact .inl (by simp; omega)
  · exact .inr ⟨by simp [h1], lexL_snoc c e h1 h2⟩
theorem slt_last (a : List UInt8) {c e : UInt8} (h : c.toNat < e.toNat) : slt (a ++ [c]) (a ++ [e]) := .inr ⟨by simp, lexL_last a h⟩
theorem sle_last (a : List UInt8) {c e : UInt8} (h : c.toNat ≤ e.toNat) : sle (a ++ [c]) (a ++ [e]) := by
  rcases Nat.lt_or_eq_of_le h with h | h
  · exact .inr (slt_last a h)
  · rw [UInt8.toNat_inj.1 h]; exact sle_refl _
theorem sle_snoc {a b : List UInt8} (c : UInt8) (h : sle a b) : sle (a ++ [c]) (b ++ [c]) := by
  rcases h with rfl | h
  · exact sle_refl _
  · exact .inr (slt_snoc c c h)
theorem slt_more (a : List UInt8) (c : UInt8) : slt a (a ++ [c]) := .inl (by simp)
theorem slt_nil (a : List UInt8) (c : UInt8) : slt [] (a ++ [c]) := .inl (by simp)
/-- Where a byte leads to. -/
def dlt (d : Dfa) (s : Nat) (c : Nat) : Nat := ((d.next.getD s []).getD (clsOf d.cls c) 0).toNat
def runD (d : Dfa) (s : Nat) (b : List UInt8) : Nat := b.foldl (fun s c => dlt d s c.toNat) s
def accB (d : Dfa) (s : Nat) : Bool := decide (0 < (d.marks.getD s []).length)
theorem runD_snoc (d : Dfa) (s : Nat) (b : List UInt8) (c : UInt8) : runD d s (b ++ [c]) = dlt d (runD d s b) c.toNat := by simp [runD]
theorem runD_cons (d : Dfa) (s : Nat) (b : List UInt8) (c : UInt8) : runD d s (c :: b) = runD d (dlt d s c.toNat) b := rfl
/-- What the first string that is accepted is, if there is one. -/
def FirstOf (d : Dfa) : Option (List UInt8) → Prop
  | none => ∀ b, accB d (runD d 0 b) = false
  | some s => accB d (runD d 0 s) = true ∧ ∀ b, accB d (runD d 0 b) = true → sle s b
theorem FirstOf.unique {d : Dfa} {r t : Option (List UInt8)} (h : FirstOf d r) (k : FirstOf d t) : r = t := by
  cases r with
  | none =>
    cases t with
    | none => rfl
    | some t => have := h t; rw [k.1] at this; cases this
  | some r =>
    cases t with
    | none => have := k r; rw [h.1] at this; cases this
    | some t => rw [sle_antisymm (h.2 t k.1) (k.2 r h.1)]
theorem right_parts_facts {d : Dfa} (h : rightB d = true) : d.cls.Pairwise (fun a b => a &&& b = 0#256) ∧ d.cls.Pairwise LessB ∧ d.cls.length ≤ 256 ∧ (∀ c, c < 256 → ∃ i, ∃ hi : i < d.cls.length, d.cls[i].getLsbD c = true) ∧ ∀ s ∈ d.cls, s ≠ 0#256 := by
  have e := right_parts h
  refine ⟨?_, ?_, ?_, ?_, ?_⟩
  · rw [← e]; exact parts_disj _
  · rw [← e]; exact parts_rise _
  · rw [← e]; exact parts_le _
  · rw [← e]; exact fun c hc => parts_cover _ hc
  · intro s hs
    rw [← e] at hs
    unfold partsB at hs; rw [List.mem_mergeSort] at hs
    exact (disj_raw _).1 s hs
theorem clsOf_range {d : Dfa} (h : rightB d = true) {c : Nat} (hc : c < 256) : clsOf d.cls c < d.cls.length := by
  obtain ⟨h1, _, _, h4, _⟩ := right_parts_facts h
  obtain ⟨i, hi, hic⟩ := h4 c hc
  rw [clsOf_at h1 hi hic]; exact hi
theorem dlt_at {d : Dfa} (h : rightB d = true) {s c : Nat} (hs : s < d.next.length) (hc : c < 256) : ∃ y : Nat, d.next[s][clsOf d.cls c]? = some (y : Int) ∧ dlt d s c = y ∧ y < d.next.length := by
  obtain ⟨hl, hr⟩ := right_row h hs
  have hk : clsOf d.cls c < d.next[s].length := by rw [hl]; exact clsOf_range h hc
  have hm := hr _ (List.getElem_mem hk)
  refine ⟨(d.next[s][clsOf d.cls c]).toNat, ?_, ?_, by omega⟩
  · rw [List.getElem?_eq_getElem hk]; congr 1; omega
  · simp [dlt, List.getD_eq_getElem?_getD, List.getElem?_eq_getElem hs, List.getElem?_eq_getElem hk]
theorem dlt_lt {d : Dfa} (h : rightB d = true) {s c : Nat} (hs : s < d.next.length) (hc : c < 256) : dlt d s c < d.next.length := by
  obtain ⟨y, _, e, hy⟩ := dlt_at h hs hc
  rw [e]; exact hy
theorem runD_lt {d : Dfa} (h : rightB d = true) : ∀ (b : List UInt8) {s : Nat}, s < d.next.length → runD d s b < d.next.length
  | [], _, hs => hs
  | c :: b, s, hs => runD_lt h b (dlt_lt h hs c.toNat_lt)
/-- The least byte of a class of a right automaton. -/
theorem first_of_cls {d : Dfa} (h : rightB d = true) {k : Nat} (hk : k < d.cls.length) : clsOf d.cls (firstB d.cls[k]).1.toNat = k ∧ ∀ c, c < 256 → clsOf d.cls c = k → (firstB d.cls[k]).1.toNat ≤ c := by
  obtain ⟨h1, _, _, h4, h5⟩ := right_parts_facts h
  have hne := h5 _ (List.getElem_mem hk)
  cases hf : (firstB d.cls[k]).2 with
  | false => exact absurd (firstB_none hf) hne
  | true =>
    obtain ⟨a1, a2⟩ := firstB_some hf
    refine ⟨clsOf_at h1 hk a1, fun c hc e => ?_⟩
    obtain ⟨i, hi, hic⟩ := h4 c hc
    have : i = k := by rw [← e, clsOf_at h1 hi hic]
    subst this
    apply Nat.le_of_not_lt; intro hlt
    rw [a2 c hlt] at hic; cases hic
theorem first_rise {d : Dfa} (h : rightB d = true) {j k : Nat} (hjk : j < k) (hk : k < d.cls.length) : (firstB (d.cls[j]'(by omega))).1.toNat < (firstB d.cls[k]).1.toNat := by
  obtain ⟨h1, h2, _, h4, h5⟩ := right_parts_facts h
  have hj : j < d.cls.length := by omega
  have hl := List.pairwise_iff_getElem.1 h2 j k hj hk hjk
  have hd := List.pairwise_iff_getElem.1 h1 j k hj hk hjk
  obtain ⟨c, hc, hjc, hkc, hb⟩ := hl
  have f1 := (first_of_cls h hj).2 c hc (clsOf_at h1 hj hjc)
  have hk1 := (first_of_cls h hk).1
  have hlt := first_lt d.cls[k]
  apply Nat.lt_of_le_of_ne
  · refine Nat.le_trans f1 ?_
    apply Nat.le_of_not_lt; intro hlt2
    obtain ⟨i, hi, hic⟩ := h4 _ hlt
    have : i = k := by rw [← hk1, clsOf_at h1 hi hic]
    subst this
    have := hb _ hlt2
    rw [hic] at this
    exact and_zero hd _ ⟨this, hic⟩
  · intro e
    have e1 := (first_of_cls h hj).1
    rw [e, hk1] at e1; omega
end Rp
end
