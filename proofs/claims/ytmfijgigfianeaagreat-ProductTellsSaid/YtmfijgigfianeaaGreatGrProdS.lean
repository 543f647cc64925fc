/- The product of two automata, in plain words: pairs in the order in which they are come to. -/
import Derived.Test.YtmfijgigfianeaaGreatGrJoin
set_option linter.unusedVariables false
set_option linter.unusedSimpArgs false
namespace Rp
open Go.Proofs
abbrev PP := Nat × Nat
def byN (a : Dfa) (s : BSet) : Nat := tabF (pairsOf (partsB a.cls)) (firstB s).1.toNat
theorem byB_N (a : Dfa) (s : BSet) : byB a s = (byN a s : Nat) := rfl
/-- Where a pair leads to, by a class. -/
def nxtP (a b : Dfa) (p : PP) (s : BSet) : PP := (((a.next.getD p.1 []).getD (byN a s) 0).toNat, ((b.next.getD p.2 []).getD (byN b s) 0).toNat)
/-- One more pair is come to: its number; there may be as many as 'fuel'. -/
def inStep (fuel : Nat) (st : List PP × List Int) (q : PP) : Option (List PP × List Int) :=
  if st.1.idxOf q = st.1.length then (if st.1.length = fuel then none else some (st.1 ++ [q], st.2 ++ [(st.1.length : Int)])) else some (st.1, st.2 ++ [(st.1.idxOf q : Int)])
def inAll (fuel : Nat) : List PP → List PP × List Int → Option (List PP × List Int)
  | [], st => some st
  | q :: r, st => match inStep fuel st q with
    | none => none
    | some st' => inAll fuel r st'
structure OutS where
  todo : List PP
  next : List (List Int)
  marks : List (List Int)
def markP (a b : Dfa) (op : Nat) (p : PP) : List Int := if sayB op (decide (0 < (a.marks.getD p.1 []).length)) (decide (0 < (b.marks.getD p.2 []).length)) then [0] else []
def outStep (a b : Dfa) (op fuel : Nat) (cls : List BSet) (st : OutS) : Option OutS :=
  match inAll fuel (cls.map (nxtP a b (st.todo.getD st.next.length (0, 0)))) (st.todo, []) with
  | none => none
  | some (todo, nx) => some ⟨todo, st.next ++ [nx], st.marks ++ [markP a b op (st.todo.getD st.next.length (0, 0))]⟩
def outRun (a b : Dfa) (op fuel : Nat) (cls : List BSet) : Nat → OutS → Option OutS
  | 0, st => some st
  | g + 1, st => if st.next.length < st.todo.length then (match outStep a b op fuel cls st with | none => none | some st' => outRun a b op fuel cls g st') else some st
/-- The product of two right automata, if it has at most 'fuel' states. -/
def prodB (a b : Dfa) (op fuel : Nat) : Option Dfa :=
  (outRun a b op fuel (allB a b) (fuel + 1) ⟨[(0, 0)], [], []⟩).map fun st => ⟨allB a b, st.next, st.marks⟩
/-- What 'Of' returns: the automaton, and the error's number. -/
def ofB (a b : Dfa) (op : Nat) (fuel : Int) : Dfa × Int :=
  if !rightB a || !rightB b then (⟨[], [], []⟩, 182) else if op = 0 ∨ 4 < op then (⟨[], [], []⟩, 190) else if fuel < 0 ∨ fuel > 4000 then (⟨[], [], []⟩, 2) else if fuel = 0 then (⟨[], [], []⟩, 181)
  else match prodB a b op fuel.toNat with
    | none => (⟨[], [], []⟩, 181)
    | some d => (d, 0)
theorem inStep_len {fuel : Nat} {st st' : List PP × List Int} {q : PP} (h : inStep fuel st q = some st') (hl : st.1.length ≤ fuel) : st'.1.length ≤ fuel ∧ st.1.length ≤ st'.1.length ∧ st'.2.length = st.2.length + 1 := by
  unfold inStep at h
  split at h
  · split at h
    · cases h
    · cases h; simp; omega
  · cases h; simp; exact hl
theorem inAll_len {fuel : Nat} : ∀ (qs : List PP) {st st' : List PP × List Int}, inAll fuel qs st = some st' → st.1.length ≤ fuel → st'.1.length ≤ fuel ∧ st.1.length ≤ st'.1.length ∧ st'.2.length = st.2.length + qs.length
  | [], st, st', h, hl => by simp only [inAll, Option.some.injEq] at h; subst h; exact ⟨hl, Nat.le_refl _, rfl⟩
  | q :: r, st, st', h, hl => by
    unfold inAll at h
    cases hs : inStep fuel st q with
    | none => rw [hs] at h; cases h
    | some s1 =>
      rw [hs] at h
      have h1 := inStep_len hs hl
      have h2 := inAll_len r h h1.1
      refine ⟨h2.1, Nat.le_trans h1.2.1 h2.2.1, ?_⟩
      rw [h2.2.2, h1.2.2, List.length_cons]; omega
end Rp
