/- The chapter's examples, reckoned out. -/
import Derived.Test.YtmfijgigfianeaaGreatGrMk
import Derived.Test.YtmfijgigfianeaaGreatGrRun
import Derived.Test.YtmfijgigfianeaaGreatGrFar
set_option linter.unusedVariables false
set_option linter.unusedSimpArgs false
namespace Rp
open Go.Proofs Go.Shelf
def outStepC (a b : Dfa) (op fuel : Nat) (ms : List Nat) (st : OutS) : Option OutS :=
  match inAll fuel (ms.map (nxtM a b (st.todo.getD st.next.length (0, 0)))) (st.todo, []) with
  | none => none
  | some (todo, nx) => some ⟨todo, st.next ++ [nx], st.marks ++ [markP a b op (st.todo.getD st.next.length (0, 0))]⟩
def outRunC (a b : Dfa) (op fuel : Nat) (ms : List Nat) : Nat → OutS → Option OutS
  | 0, st => some st
  | g + 1, st => if st.next.length < st.todo.length then (match outStepC a b op fuel ms st with | none => none | some st' => outRunC a b op fuel ms g st') else some st
theorem outRun_C {a b : Dfa} (ha : rightB a = true) (hb : rightB b = true) (op fuel : Nat) : ∀ g st, outRun a b op fuel (allB a b) g st = outRunC a b op fuel (leastsN (a.cls ++ b.cls)) g st
  | 0, st => rfl
  | g + 1, st => by
    have h : outStep a b op fuel (allB a b) st = outStepC a b op fuel (leastsN (a.cls ++ b.cls)) st := by
      unfold outStep outStepC; rw [nxt_ref ha hb]
      cases inAll fuel ((leastsN (a.cls ++ b.cls)).map (nxtM a b (st.todo.getD st.next.length (0, 0)))) (st.todo, []) <;> rfl
    unfold outRun outRunC
    rw [h]
    split
    · cases outStepC a b op fuel (leastsN (a.cls ++ b.cls)) st with
      | none => rfl
      | some st' => exact outRun_C ha hb op fuel g st'
    · rfl
def ofC (a b : Dfa) (op fuel : Nat) : Dfa × Int :=
  match outRunC a b op fuel (leastsN (a.cls ++ b.cls)) (fuel + 1) ⟨[(0, 0)], [], []⟩ with
  | none => (⟨[], [], []⟩, 181)
  | some st => (⟨refClasses (a.cls ++ b.cls), st.next, st.marks⟩, 0)
theorem ofB_C {a b : Dfa} (ha : rightB a = true) (hb : rightB b = true) {op : Nat} (h1 : 1 ≤ op) (h4 : op ≤ 4) {fuel : Int} (h0 : 0 < fuel) (hf : fuel ≤ 4000) : ofB a b op fuel = ofC a b op fuel.toNat := by
  have e1 : ¬ (!rightB a || !rightB b) = true := by rw [ha, hb]; decide
  unfold ofB ofC prodB
  rw [if_neg e1, if_neg (by omega), if_neg (by omega), if_neg (by omega), outRun_C ha hb, all_ref ha hb]
  cases outRunC a b op fuel.toNat (leastsN (a.cls ++ b.cls)) (fuel.toNat + 1) ⟨[(0, 0)], [], []⟩ <;> rfl
theorem first_byte {d : Dfa} (m : UInt8) (h0 : accB d 0 = false) (h1 : accB d (dlt d 0 m.toNat) = true) (h2 : ∀ c, c < m.toNat → accB d (dlt d 0 c) = false) : FirstOf d (some [m]) := by
  refine ⟨h1, fun b hb => ?_⟩
  cases b with
  | nil => rw [show runD d 0 [] = 0 from rfl, h0] at hb; cases hb
  | cons c t =>
    cases t with
    | cons e t => exact .inr (.inl (by simp))
    | nil =>
      rcases Nat.lt_trichotomy c.toNat m.toNat with h | h | h
      · rw [show runD d 0 [c] = dlt d 0 c.toNat from rfl, h2 _ h] at hb; cases hb
      · exact .inl (by rw [UInt8.toNat_inj.1 h])
      · exact .inr (.inr ⟨rfl, .inl h⟩)
theorem first_empty {d : Dfa} (h : ∀ m ∈ d.marks, m = []) : FirstOf d none := fun b => by
  unfold accB
  generalize runD d 0 b = s
  rw [List.getD_eq_getElem?_getD]
  by_cases hs : s < d.marks.length
  · rw [List.getElem?_eq_getElem hs, Option.getD_some, h _ (List.getElem_mem hs)]; rfl
  · rw [List.getElem?_eq_none (by omega)]; rfl
theorem right_rd1 : rightB (rdD 1) = true := by
  refine (right_iff _).2 ⟨by decide, by decide, by decide, by decide +kernel, fun s hs => ?_⟩
  have : s = 0 ∨ s = 1 := by
    have h : (rdD 1).next.length = 2 := by decide
    omega
  rcases this with rfl | rfl <;> decide +kernel
theorem right_rd2 : rightB (rdD 2) = true := by
  refine (right_iff _).2 ⟨by decide, by decide, by decide, by decide +kernel, fun s hs => ?_⟩
  have : s = 0 ∨ s = 1 ∨ s = 2 := by
    have h : (rdD 2).next.length = 3 := by decide
    omega
  rcases this with rfl | rfl | rfl <;> decide +kernel
theorem of_and : ofB (rdD 1) (rdD 2) 1 99 = ofC (rdD 1) (rdD 2) 1 99 := ofB_C right_rd1 right_rd2 (by decide) (by decide) (by decide) (by decide)
theorem of_less : ofB (rdD 1) (rdD 2) 3 99 = ofC (rdD 1) (rdD 2) 3 99 := ofB_C right_rd1 right_rd2 (by decide) (by decide) (by decide) (by decide)
theorem of_back : ofB (rdD 2) (rdD 1) 3 99 = ofC (rdD 2) (rdD 1) 3 99 := ofB_C right_rd2 right_rd1 (by decide) (by decide) (by decide) (by decide)
theorem of_self : ofB (rdD 1) (rdD 1) 4 99 = ofC (rdD 1) (rdD 1) 4 99 := ofB_C right_rd1 right_rd1 (by decide) (by decide) (by decide) (by decide)
theorem and_err : (ofB (rdD 1) (rdD 2) 1 99).2 = 0 := by rw [of_and]; decide +kernel
theorem and_aa : ((ofB (rdD 1) (rdD 2) 1 99).1.marks.getD (runD (ofB (rdD 1) (rdD 2) 1 99).1 0 [97, 97]) []).length = 1 := by rw [of_and]; decide +kernel
theorem and_a : ((ofB (rdD 1) (rdD 2) 1 99).1.marks.getD (runD (ofB (rdD 1) (rdD 2) 1 99).1 0 [97]) []).length = 0 := by rw [of_and]; decide +kernel
theorem less_err : (ofB (rdD 1) (rdD 2) 3 99).2 = 0 := by rw [of_less]; decide +kernel
theorem less_first : FirstOf (ofB (rdD 1) (rdD 2) 3 99).1 (some [97]) := by
  rw [of_less]
  exact first_byte 97 (by decide +kernel) (by decide +kernel) (by decide +kernel)
theorem back_err : (ofB (rdD 2) (rdD 1) 3 99).2 = 0 := by rw [of_back]; decide +kernel
theorem back_first : FirstOf (ofB (rdD 2) (rdD 1) 3 99).1 none := by
  rw [of_back]
  exact first_empty (by decide +kernel)
theorem self_err : (ofB (rdD 1) (rdD 1) 4 99).2 = 0 := by rw [of_self]; decide +kernel
theorem self_first : FirstOf (ofB (rdD 1) (rdD 1) 4 99).1 none := by
  rw [of_self]
  exact first_empty (by decide +kernel)
def ntD : Dfa := ⟨(rdD 1).cls, (rdD 1).next, (rdD 1).marks.map notM⟩
theorem not_rd1 : notB (rdD 1) = (ntD, 0) := by unfold notB; rw [if_pos right_rd1]; rfl
theorem not_right : rightB ntD = true := by
  refine (right_iff _).2 ⟨by decide, by decide, by decide, by decide +kernel, fun s hs => ?_⟩
  have : s = 0 ∨ s = 1 := by
    have h : ntD.next.length = 2 := by decide
    omega
  rcases this with rfl | rfl <;> decide +kernel
theorem not_first : FirstOf ntD (some [0]) := first_byte 0 (by decide +kernel) (by decide +kernel) (by decide +kernel)
def anD : Dfa := ⟨[~~~ letS [97, 98], letS [97, 98]], [[1, 0], [1, 1]], [[0], []]⟩
theorem an_right : rightB anD = true := by
  refine (right_iff _).2 ⟨by decide, by decide, by decide, by decide +kernel, fun s hs => ?_⟩
  have : s = 0 ∨ s = 1 := by
    have h : anD.next.length = 2 := by decide
    omega
  rcases this with rfl | rfl <;> decide +kernel
theorem an_count : ∀ most : Int, 0 ≤ most → most ≤ 100 → countB anD 3 most = (min 8 most, 0) := fun most h0 h1 => by
  have h : (cntAll anD 3).getD 0 0 = 8 := by decide +kernel
  have e : ((3 : Int).toNat) = 3 := rfl
  unfold countB
  rw [if_pos an_right, if_neg (by simp only [maxC]; omega), e, h]
theorem parts_none {a b D : Dfa} {op : Nat} {fuel : Int} {bs : List UInt8} {ok : Bool} {er : Int} (h : ofB a b op fuel = (D, 0)) (k : FirstOf D none) (p : PartsR a b op fuel (bs, ok, er)) : bs = [] ∧ ok = true ∧ er = 0 := by
  unfold PartsR at p
  rw [h, if_pos rfl] at p
  obtain ⟨r, hr, e⟩ := p
  obtain rfl := hr.unique k
  simp only [Prod.mk.injEq] at e
  exact ⟨e.1, e.2.1, e.2.2⟩
theorem parts_some {a b D : Dfa} {op : Nat} {fuel : Int} {bs s : List UInt8} {ok : Bool} {er : Int} (h : ofB a b op fuel = (D, 0)) (k : FirstOf D (some s)) (p : PartsR a b op fuel (bs, ok, er)) : bs = s ∧ ok = false ∧ er = 0 := by
  unfold PartsR at p
  rw [h, if_pos rfl] at p
  obtain ⟨r, hr, e⟩ := p
  obtain rfl := hr.unique k
  simp only [Prod.mk.injEq] at e
  exact ⟨e.1, e.2.1, e.2.2⟩
theorem firstR_some {D : Dfa} {bs s : List UInt8} {ok : Bool} {er : Int} (hr : rightB D = true) (k : FirstOf D (some s)) (p : FirstR D (bs, ok, er)) : bs = s ∧ ok = true ∧ er = 0 := by
  unfold FirstR at p
  rw [if_pos hr] at p
  obtain ⟨r, hr, e⟩ := p
  obtain rfl := hr.unique k
  simp only [Prod.mk.injEq] at e
  exact ⟨e.1, e.2.1, e.2.2⟩
theorem and_all : ∃ D, ofB (rdD 1) (rdD 2) 1 99 = (D, 0) ∧ rightB D = true ∧ (D.marks.getD (runD D 0 [97, 97]) []).length = 1 ∧ (D.marks.getD (runD D 0 [97]) []).length = 0 :=
  ⟨_, Prod.ext rfl and_err, ofB_right and_err, and_aa, and_a⟩
theorem less_all : ∃ D, ofB (rdD 1) (rdD 2) 3 99 = (D, 0) ∧ rightB D = true ∧ FirstOf D (some [97]) := ⟨_, Prod.ext rfl less_err, ofB_right less_err, less_first⟩
theorem back_all : ∃ D, ofB (rdD 2) (rdD 1) 3 99 = (D, 0) ∧ FirstOf D none := ⟨_, Prod.ext rfl back_err, back_first⟩
theorem self_all : ∃ D, ofB (rdD 1) (rdD 1) 4 99 = (D, 0) ∧ FirstOf D none := ⟨_, Prod.ext rfl self_err, self_first⟩
theorem not_all : ∃ D, notB (rdD 1) = (D, 0) ∧ rightB D = true ∧ FirstOf D (some [0]) := ⟨_, not_rd1, not_right, not_first⟩
end Rp
