/- A slice that the reader reads is a slice that is read, whatever its elements. An automaton that the reader reads is an automaton that is read. Slices that may be written: rows that are not frozen. What a stretch of a walk may turn: the blocks of S; all others lie as they lay. -/
import Derived.Test.YtmfijgigfianeaaGreatGrDfa
import Derived.Deep.Slices
import Derived.Lib.SmallJoins
import Derived.Laws.IdiomArrays
import Derived.Test.YtmfijgigfianeaaGreatGrAlph
section
set_option linter.unusedVariables false
set_option linter.unusedSimpArgs false
namespace Rp
open Go Go.RowKit Go.Deep
section
variable {H : Type} {enc : TypeId × Value → H} {P : Program} {w : World} {base : Nat} {spare : Nat → Bool} {held : Bool}
theorem cells_row {α : Type} (K : Kd α) (Q : α → DataW H → Prop) {e : TypeId} (hsz : P.cellsOf e = K.sz) (a : Addr) (D : Nat → DataW H) (Pl : Nat → List MemPlace) (n m : Nat)
    (hel : ∀ cs y, cs.length = K.sz → DataW.trod enc P w base spare held n e cs = some y → ∃ x, K.R w (fun _ => True) x cs ∧ Q x y.1)
    (h : ∀ i, i < m → ∃ cs', w.cells? base (a.add (i * P.cellsOf e)) (P.cellsOf e) = some cs' ∧ DataW.trod enc P w base spare held n e cs' = some (D i, Pl i)) :
    ∀ k, k ≤ m → ∃ (l : List α) (inner : List Value), l.length = k ∧ Reps (K.R w (fun _ => True)) K.sz l inner ∧ (∀ j u, inner[j]? = some u → w.cell? (a.add j) = some u) ∧ ∀ i x, l[i]? = some x → Q x (D i)
  | 0, _ => ⟨[], [], rfl, rfl, fun j u hu => by simp at hu, fun i x hx => by simp at hx⟩
  | k + 1, hk => by
    obtain ⟨l, inner, hl, hr, hc, hq⟩ := cells_row K Q hsz a D Pl n m hel h k (by omega)
    obtain ⟨cs', h1, h2⟩ := h k (by omega)
    obtain ⟨_, hlen, hcell⟩ := World.cells?_some h1
    obtain ⟨x, hx, hqx⟩ := hel cs' _ (by omega) h2
    have hil := hr.length
    refine ⟨l ++ [x], inner ++ cs', by simp [hl], hr.append (Reps.one hx (by omega)), fun j u hu => ?_, fun i y hy => ?_⟩
    · by_cases hj : j < inner.length
      · rw [List.getElem?_append_left hj] at hu
        exact hc j u hu
      · rw [List.getElem?_append_right (by omega)] at hu
        have hjl : j - inner.length < cs'.length := (List.getElem?_eq_some_iff.1 hu).1
        have hh := hcell (j - inner.length) (by omega)
        rw [hu, add_add, hsz, ← hl, ← hil, show inner.length + (j - inner.length) = j by omega] at hh
        exact hh
    · by_cases hi : i < l.length
      · rw [List.getElem?_append_left hi] at hy
        exact hq i y hy
      · rw [List.getElem?_append_right (by omega)] at hy
        have : i - l.length = 0 := by
          have := (List.getElem?_eq_some_iff.1 hy).1
          simp at this; omega
        rw [this] at hy
        simp at hy
        subst hy
        rw [show i = k by omega]
        exact hqx
/-- What a slice's datum says of the list that is read. -/
def Dat {α : Type} (Q : α → DataW H → Prop) (l : List α) (d : DataW H) : Prop :=
  (d = .nil ∧ l = []) ∨ ∃ (el sp : List (DataW H)), d = .slice el sp ∧ el.length = l.length ∧ ∀ (i : Nat) (x : α) (y : DataW H), l[i]? = some x → el[i]? = some y → Q x y
theorem read_slice {α : Type} (K : Kd α) (Q : α → DataW H → Prop) {t e : TypeId} (ht : P.underlying t = some (.slice e)) (hsz : P.cellsOf e = K.sz) (hp : 0 < K.sz)
    (hel : ∀ n cs y, cs.length = K.sz → DataW.trod enc P w base spare held n e cs = some y → ∃ x, K.R w (fun _ => True) x cs ∧ Q x y.1)
    {fuel : Nat} {cs : List Value} {x : DataW H × List MemPlace} (h : DataW.trod enc P w base spare held fuel t cs = some x) :
    ∃ l : List α, K.slice.R w (fun _ => True) l cs ∧ Dat Q l x.1 := by
  rcases open_slice ht h with ⟨rfl, rfl⟩ | ⟨a, len, cap, m, n, D, Pl, rfl, hb, hl, hm, hmm, rfl, hx⟩
  · exact ⟨[], ⟨none, 0, rfl, by simp, by decide, fun h => absurd rfl h⟩, Or.inl ⟨rfl, rfl⟩⟩
  · have hlm : len ≤ m := by rw [hmm]; split <;> omega
    obtain ⟨l, inner, h1, h2, h3, h4⟩ := cells_row K Q hsz a D Pl n m (hel n) hx len hlm
    refine ⟨l, ⟨some a, cap, by rw [h1], by omega, by simpa [maxLen] using hm, fun hne => ?_⟩, Or.inr ⟨_, _, rfl, by simp [h1], fun i x y hix hiy => ?_⟩⟩
    · have hil := h2.length
      have hlp : 0 < l.length := by cases l with
        | nil => exact absurd rfl hne
        | cons => simp
      have hip : 0 < inner.length := by rw [hil]; exact Nat.mul_pos hlp hp
      have hc0 := h3 0 inner[0] (List.getElem?_eq_getElem hip)
      have hs : a.spot = none := by simpa [Addr.add] using World.cell?_spot hc0
      obtain ⟨b, off, spot⟩ := a
      simp only at hs
      subst hs
      exact ⟨b, off, inner, rfl, trivial, World.block_lt_of_cell? w _ hc0, h2, fun j u hu => by
        have h := h3 j u hu
        by_cases hj : j = 0
        · subst hj; simpa [Addr.add] using h
        · simpa [Addr.add, hj] using h⟩
    · have hi : i < len := by rw [← h1]; exact (List.getElem?_eq_some_iff.1 hix).1
      simp [hi] at hiy
      rw [← hiy]
      exact h4 i x hix
theorem read_int {t : TypeId} (ht : P.underlying t = some (.int .i64)) {n : Nat} {cs : List Value} {y : DataW H × List MemPlace} (h : DataW.trod enc P w base spare held n t cs = some y) :
    ∃ x, Kint.R w (fun _ => True) x cs ∧ True := by
  obtain ⟨x, rfl, _, hw⟩ := DataW.trod_int ht h
  have hb := Go.bounds_i64 hw
  exact ⟨x, ⟨rfl, by unfold inI64; omega⟩, trivial⟩
theorem read_word {t : TypeId} (ht : P.underlying t = some (.int .u64)) {n : Nat} {c : Value} {y : DataW H × List MemPlace} (h : DataW.trod enc P w base spare held n t [c] = some y) :
    ∃ x : BitVec 64, c = u64 x := by
  obtain ⟨x, hx, _, hw⟩ := DataW.trod_int ht h
  have hb := Go.bounds_u64 hw
  obtain rfl : c = .int .u64 x := by simpa using hx
  refine ⟨BitVec.ofNat 64 x.toNat, ?_⟩
  have : x.toNat < 2 ^ 64 := by omega
  simp only [u64, BitVec.toNat_ofNat, Nat.mod_eq_of_lt this]
  congr 1; omega
theorem read_set {t e : TypeId} (ht : P.underlying t = some (.array 4 e)) (hce : P.cellsOf e = 1) (he : P.underlying e = some (.int .u64)) {n : Nat} {cs : List Value} (hcs : cs.length = 4) {y : DataW H × List MemPlace} (h : DataW.trod enc P w base spare held n t cs = some y) :
    ∃ x, Kset.R w (fun _ => True) x cs ∧ True := by
  match cs, hcs with
  | [c0, c1, c2, c3], _ =>
    obtain ⟨y0, y1, y2, y3, m, _, h0, h1, h2, h3⟩ := Go.ChangeShapes.trod_array4 ht hce h
    obtain ⟨x0, rfl⟩ := read_word he h0
    obtain ⟨x1, rfl⟩ := read_word he h1
    obtain ⟨x2, rfl⟩ := read_word he h2
    obtain ⟨x3, rfl⟩ := read_word he h3
    exact ⟨ofWords x0 x1 x2 x3, by show _ = (setC _).toList; rw [setC, wd_ofWords0, wd_ofWords1, wd_ofWords2, wd_ofWords3], trivial⟩
/-- The lengths of what lies in a row, out of the weights. -/
theorem weights_row {e : TypeId} : ∀ (el : List (DataW H)) (d : DataW H), d ∈ el → ∀ n ∈ d.weights P e, n ∈ DataW.weightsAll P e el
  | x :: r, d, hd, n, hn => by
    simp only [DataW.weightsAll, List.mem_append]
    rcases List.mem_cons.1 hd with rfl | hd
    · exact Or.inl hn
    · exact Or.inr (weights_row r d hd n hn)
/-- Rows of rows of integers: each inner row is as long as the reach lets it be. -/
theorem rows_len {t e : TypeId} (ht : P.underlying t = some (.slice e)) {e' : TypeId} (he : P.underlying e = some (.slice e')) (h8 : P.bytesOf e' = 8) {l : List (List Int)} {d : DataW H}
    (h : Dat (Dat fun (_ : Int) (_ : DataW H) => True) l d) (hw : ∀ n ∈ d.weights P t, n ≤ reachBytes) : ∀ x ∈ l, x.length ≤ 140737488355328 := fun x hx => by
  rcases h with ⟨_, rfl⟩ | ⟨el, sp, rfl, hn, hq⟩
  · simp at hx
  · obtain ⟨i, hi, rfl⟩ := List.mem_iff_getElem.1 hx
    have h1 := hq i l[i] el[i] (List.getElem?_eq_getElem hi) (List.getElem?_eq_getElem (by omega))
    rcases h1 with ⟨_, h2⟩ | ⟨el', sp', h2, h3, _⟩
    · rw [h2]; simp
    · have := hw ((el'.length + sp'.length) * P.bytesOf e') (by
        simp only [DataW.weights, ht, List.mem_cons, List.mem_append]
        refine Or.inr (Or.inl (weights_row el el[i] (List.getElem_mem _) _ ?_))
        rw [h2]
        simp [DataW.weights, he])
      rw [h8] at this
      simp only [reachBytes] at this
      omega
end
end Rp
end

section
set_option linter.unusedVariables false
set_option linter.unusedSimpArgs false
namespace Rp
open Go Go.RowKit Go.Deep Go.Proofs
theorem dfa_cells : Tryz.prog.cellsOf 25 = 3 := by kernel_rfl
theorem set_cells : Tryz.prog.cellsOf 33 = 4 := by kernel_rfl
theorem word_cells : Tryz.prog.cellsOf 31 = 1 := by kernel_rfl
theorem int_cells : Tryz.prog.cellsOf 3 = 1 := by kernel_rfl
theorem ints_cells : Tryz.prog.cellsOf 36 = 1 := by kernel_rfl
theorem int_bytes : Tryz.prog.bytesOf 3 = 8 := by kernel_rfl
section
variable {H : Type} {enc : TypeId × Value → H} {w : World} {base : Nat} {spare : Nat → Bool} {held : Bool}
theorem read_sets {n : Nat} {v : Value} {y : DataW H × List MemPlace} (h : DataW.trod enc Tryz.prog w base spare held n 22 [v] = some y) :
    ∃ l, Kset.slice.R w (fun _ => True) l [v] := by
  obtain ⟨l, hl, _⟩ := read_slice (enc := enc) Kset (fun _ _ => True) Tryz.underlying22 (set_cells) (by decide) (fun n cs y hc hy => read_set Tryz.underlying33 word_cells Tryz.underlying31 hc hy) h
  exact ⟨l, hl⟩
theorem read_rows {n : Nat} {v : Value} {y : DataW H × List MemPlace} (h : DataW.trod enc Tryz.prog w base spare held n 23 [v] = some y) :
    ∃ l, Kints.slice.R w (fun _ => True) l [v] ∧ ((∀ n ∈ y.1.weights Tryz.prog 23, n ≤ reachBytes) → ∀ x ∈ l, x.length ≤ 140737488355328) := by
  obtain ⟨l, hl, hd⟩ := read_slice (enc := enc) Kints (Dat fun (_ : Int) (_ : DataW H) => True) Tryz.underlying23 ints_cells (by decide)
    (fun n cs y hc hy => read_slice (enc := enc) Kint (fun _ _ => True) Tryz.underlying36 int_cells (by decide) (fun n cs y hc hy => read_int Tryz.underlying3 hy) hy) h
  exact ⟨l, hl, fun hw => rows_len Tryz.underlying23 Tryz.underlying36 int_bytes hd hw⟩
set_option maxRecDepth 100000 in
theorem read_dfa {b0 : Nat} {v : Value} {d : DataW H} {p : List MemPlace} (hv : Value.okWide Tryz.prog w .any b0 25 v) (h : DataW.Trod enc Tryz.prog w base spare held 25 v d p) :
    ∃ (hh : DA) (D : Dfa), v = dfaV hh D ∧ DfaR w (fun _ => True) hh D ∧ ((∀ n ∈ d.weights Tryz.prog 25, n ≤ reachBytes) → (∀ x ∈ D.next, x.length ≤ 140737488355328) ∧ ∀ x ∈ D.marks, x.length ≤ 140737488355328) := by
  obtain ⟨v0, v1, v2, y0, y1, y2, n, rfl, rfl, rfl, h0, h1, h2⟩ := Go.Joins.open_agg3 Tryz.underlying25 (by kernel_rfl) dfa_cells hv h
  obtain ⟨l0, ⟨A0, c0, e0, k0, m0, s0⟩⟩ := read_sets h0
  obtain ⟨l1, ⟨A1, c1, e1, k1, m1, s1⟩, b1⟩ := read_rows h1
  obtain ⟨l2, ⟨A2, c2, e2, k2, m2, s2⟩, b2⟩ := read_rows h2
  simp only [List.cons.injEq, and_true] at e0 e1 e2
  subst e0 e1 e2
  refine ⟨⟨A0, c0, A1, c1, A2, c2⟩, ⟨l0, l1, l2⟩, rfl, ⟨s0, s1, s2, k0, k1, k2, m0, m1, m2⟩, fun hw => ⟨b1 fun n hn => hw n ?_, b2 fun n hn => hw n ?_⟩⟩
  · simp only [DataW.weights, Tryz.underlying25, List.map_cons, List.map_nil, DataW.weightsEach, List.mem_append]
    exact Or.inr (Or.inl hn)
  · simp only [DataW.weights, Tryz.underlying25, List.map_cons, List.map_nil, DataW.weightsEach, List.mem_append]
    exact Or.inr (Or.inr (Or.inl hn))
end
end Rp
end

section
set_option linter.unusedVariables false
set_option linter.unusedSimpArgs false
namespace Rp
open Go Go.RowKit
namespace Kd
variable {α : Type} {d : Kd α} {w w1 : World} {F G : Nat → Prop} {x : α} {c : List Value}
/-- A slice that is read, in a row that is not frozen. -/
def SF (d : Kd α) (w : World) (F : Nat → Prop) (A : Option Addr) (xs : List α) : Prop :=
  xs ≠ [] → ∃ b off inner, A = some ⟨b, off, none⟩ ∧ F b ∧ b < w.heap.size ∧ Reps (d.R w F) d.sz xs inner ∧ cellsAt w b off inner ∧ ∀ o, w.frozen? ⟨b, o, none⟩ = false
theorem SF.S {A : Option Addr} {xs : List α} (h : d.SF w F A xs) : d.S w F A xs := fun hx => by
  obtain ⟨b, off, inner, e, hF, hlt, hr, hc, _⟩ := h hx
  exact ⟨b, off, inner, e, hF, hlt, hr, hc⟩
theorem SF.mono {A : Option Addr} {xs : List α} (h : d.SF w F A xs) (hm : ∀ b, F b → G b) : d.SF w G A xs := fun hx => by
  obtain ⟨b, off, inner, e, hF, hlt, hr, hc, hf⟩ := h hx
  exact ⟨b, off, inner, e, hm b hF, hlt, hr.imp fun _ _ _ => d.mono hm, hc, hf⟩
theorem SF.step {A : Option Addr} {xs : List α} (h : d.SF w F A xs) (hm : ∀ b, F b → b < w.heap.size → w1.heap[b]? = w.heap[b]?) : d.SF w1 F A xs := fun hx => by
  obtain ⟨b, off, inner, e, hF, hlt, hr, hc, hf⟩ := h hx
  refine ⟨b, off, inner, e, hF, ?_, hr.imp fun _ _ _ h => d.step h hm, hc.move (hm b hF hlt), fun o => (World.frozen?_of_block (w := w) (a := ⟨b, o, none⟩) (hm b hF hlt)).trans (hf o)⟩
  have h1 := hm b hF hlt
  rw [Array.getElem?_eq_getElem hlt] at h1
  exact (Array.getElem?_eq_some_iff.1 h1).1
theorem SF.bound {A : Option Addr} {xs : List α} (h : d.SF w F A xs) : d.SF w (fun b => F b ∧ b < w.heap.size) A xs := fun hx => by
  obtain ⟨b, off, inner, e, hF, hlt, hr, hc, hf⟩ := h hx
  exact ⟨b, off, inner, e, ⟨hF, hlt⟩, hlt, hr.imp fun _ _ _ h => d.bound h, hc, hf⟩
def sliceF (d : Kd α) : Kd (List α) where
  sz := 1
  R := fun w F xs c => ∃ A cap, c = [.slice A xs.length cap] ∧ xs.length ≤ cap ∧ cap ≤ 9223372036854775807 ∧ d.SF w F A xs
  len := by rintro w F x c ⟨A, cap, rfl, _⟩; rfl
  one := by
    rintro w F x c ⟨A, cap, rfl, _⟩ u hu
    rw [List.mem_singleton.1 hu]; rfl
  mono := by rintro w F G x c hm ⟨A, cap, rfl, h1, h2, h⟩; exact ⟨A, cap, rfl, h1, h2, SF.mono h hm⟩
  move := by
    rintro w w1 F x c hm ⟨A, cap, rfl, h1, h2, h⟩
    exact ⟨A, cap, rfl, h1, h2, SF.step h fun b hb _ => hm b hb⟩
  bound := by rintro w F x c ⟨A, cap, rfl, h1, h2, h⟩; exact ⟨A, cap, rfl, h1, h2, SF.bound h⟩
theorem sliceF_slice {xs : List α} (h : d.sliceF.R w F xs c) : d.slice.R w F xs c := by
  obtain ⟨A, cap, e, h1, h2, h3⟩ := h
  exact ⟨A, cap, e, h1, h2, h3.S⟩
end Kd
abbrev KintF : Kd (List Int) := Kint.sliceF
theorem S_map {α : Type} {d d' : Kd α} {w : World} {F : Nat → Prop} {A : Option Addr} {xs : List α} (hs : d.sz = d'.sz) (hR : ∀ q c, d.R w F q c → d'.R w F q c) (h : d.S w F A xs) : d'.S w F A xs := fun hx => by
  obtain ⟨b, off, inner, e, hF, hlt, hr, hc⟩ := h hx
  exact ⟨b, off, inner, e, hF, hlt, by rw [← hs]; exact hr.imp fun q c _ h => hR q c h, hc⟩
theorem S_forget {w : World} {F : Nat → Prop} {A : Option Addr} {xs : List (List Int)} (h : KintF.S w F A xs) : Kints.S w F A xs := S_map (d := KintF) (d' := Kints) rfl (fun _ _ h => Kd.sliceF_slice h) h
theorem OwnS.map {α : Type} {d d' : Kd α} {e : TypeId} {w : World} {base : Nat} {F : Nat → Prop} {v : Value} {xs : List α} (hs : d.sz = d'.sz) (hR : ∀ G q c, d.R w G q c → d'.R w G q c) (h : OwnS d e w base F v xs) : OwnS d' e w base F v xs := by
  obtain ⟨hF, inner, ho, hr⟩ := h
  exact ⟨hF, inner, by rw [← hs]; exact ho, by rw [← hs]; exact hr.imp fun q c _ h => hR _ q c h⟩
theorem OwnS.readsF {α : Type} {d : Kd α} {e : TypeId} {w : World} {base : Nat} {F : Nat → Prop} {v : Value} {xs : List α} (h : OwnS d e w base F v xs) :
    ∃ A cap, v = .slice A xs.length cap ∧ xs.length ≤ cap ∧ cap ≤ 9223372036854775807 ∧ d.SF w F A xs := by
  obtain ⟨hF, inner, ho, hr⟩ := h
  rcases ho.2 with ⟨rfl, h0⟩ | ⟨g, cap, cur, rfl, hb, hh, hnc, hcm, hcs, htake⟩
  · have : xs = [] := List.eq_nil_of_length_eq_zero h0
    subst this
    exact ⟨none, 0, rfl, by simp, by simp, fun hx => absurd rfl hx⟩
  · refine ⟨_, cap, rfl, hnc, by simpa [maxLen] using hcm, fun hx => ⟨g, 0, inner, rfl, hF g (by simp [Value.ownBlock]), (Array.getElem?_eq_some_iff.1 hh).1, hr.imp fun _ _ _ h => d.mono (fun b hb => hb.1) h, fun j u hu => ?_, fun o => ?_⟩⟩
    · have := ho.cells (g := g) (by simp [Value.ownBlock]) j u hu
      rw [Addr.add_lit] at this
      exact this
    · simp [World.frozen?, hh]
theorem OwnS.sliceF {α : Type} {d : Kd α} {e : TypeId} {w : World} {base : Nat} {F : Nat → Prop} {v : Value} {xs : List α} (h : OwnS d e w base F v xs) : d.sliceF.R w F xs [v] := by
  obtain ⟨A, cap, rfl, h1, h2, h3⟩ := h.readsF
  exact ⟨A, cap, rfl, h1, h2, h3⟩
end Rp
end

section
set_option linter.unusedVariables false
set_option linter.unusedSimpArgs false
namespace Rp
open Go Go.RowKit
structure Kp (S : Nat → Prop) (w w' : World) : Prop where
  os : w'.os = w.os
  tape : w'.tape = w.tape
  output : w'.output = w.output
  size : w.heap.size ≤ w'.heap.size
  block : ∀ k, k < w.heap.size → ¬ S k → w'.heap[k]? = w.heap[k]?
theorem Kp.refl (S : Nat → Prop) (w : World) : Kp S w w := ⟨rfl, rfl, rfl, Nat.le_refl _, fun _ _ _ => rfl⟩
theorem Kp.trans {S : Nat → Prop} {a b c : World} (h : Kp S a b) (k : Kp S b c) : Kp S a c :=
  ⟨k.os.trans h.os, k.tape.trans h.tape, k.output.trans h.output, Nat.le_trans h.size k.size, fun i hi hs => (k.block i (Nat.lt_of_lt_of_le hi h.size) hs).trans (h.block i hi hs)⟩
theorem Kp.mono {S T : Nat → Prop} {a b : World} (h : Kp S a b) (hm : ∀ k, k < a.heap.size → S k → T k) : Kp T a b := ⟨h.os, h.tape, h.output, h.size, fun k hk hn => h.block k hk fun hs => hn (hm k hk hs)⟩
theorem Kp.of_mov {S : Nat → Prop} {w w' : World} {r r' : Option Nat} (h : Mov w w' r r') (hr : ∀ k, r = some k → S k) : Kp S w w' :=
  ⟨h.os, h.tape, h.output, h.size, fun k hk hn => h.block k hk fun e => hn (hr k e.symm)⟩
theorem Kp.of_below {S : Nat → Prop} {w w' : World} (h : Below w.heap.size w w') : Kp S w w' := ⟨h.os, h.tape, h.output, h.size, fun k hk _ => h.block k hk⟩
theorem Kp.of_ext {S : Nat → Prop} {w w' : World} (h : Ext w w') : Kp S w w' := .of_below h.below
theorem Kp.of_grown {S : Nat → Prop} {w w' : World} {b : Nat} (h : w.grownBy w' (some b)) (hb : S b) : Kp S w w' :=
  ⟨h.os, h.tape, h.output, h.size, fun k hk hn => h.block k hk fun e => hn (by injection e with e; exact e ▸ hb)⟩
theorem Kp.alloc {S : Nat → Prop} {a w : World} (h : Kp S a w) (o : Obj) : Kp S a (w.alloc o) := h.trans (.of_ext ((Ext.refl _).alloc o))
theorem Kp.drew {S : Nat → Prop} {a w : World} (h : Kp S a w) : Kp S a w.drew := h.trans (.of_ext (Ext.refl _).drew)
theorem Kp.setCell {S : Nat → Prop} {a w : World} (h : Kp S a w) (p : Addr) (hp : S p.block) (u : Value) : Kp S a (w.setCell p u) :=
  h.trans ⟨rfl, rfl, rfl, by simp, fun k hk hn => Below.heap_setCell w p u k fun e => hn (e ▸ hp)⟩
theorem Kp.below {S : Nat → Prop} {B : Nat} {w w' : World} (h : Kp S w w') (hB : B ≤ w.heap.size) (hS : ∀ k, k < B → ¬ S k) : Below B w w' := ⟨h.os, h.tape, h.output, h.size, fun k hk => h.block k (by omega) (hS k hk)⟩
theorem Kp.heap {S : Nat → Prop} {w w' : World} (h : Kp S w w') {b : Nat} {o : Obj} (hb : w.heap[b]? = some o) (hn : ¬ S b) : w'.heap[b]? = some o := (h.block b (Array.getElem?_eq_some_iff.1 hb).1 hn).trans hb
theorem Kp.cell {S : Nat → Prop} {w w' : World} (h : Kp S w w') {b o : Nat} {v : Value} (hc : w.cell? ⟨b, o, none⟩ = some v) (hn : ¬ S b) : w'.cell? ⟨b, o, none⟩ = some v := by
  rw [← hc]; exact World.cell?_of_block (w := w) (a := ⟨b, o, none⟩) (h.block b (World.block_lt_of_cell? w ⟨b, o, none⟩ hc) hn)
/-- A row of one's own whose blocks do not turn. -/
theorem OwnS.keep {α : Type} {d : Kd α} {e : TypeId} {w w' : World} {base : Nat} {F S : Nat → Prop} {v : Value} {xs : List α} (h : OwnS d e w base F v xs) (hk : Kp S w w') (hn : ∀ b, F b → b < w.heap.size → ¬ S b) : OwnS d e w' base F v xs :=
  h.step fun b hb hl => hk.block b hl (hn b hb hl)
theorem S_keep {α : Type} {d : Kd α} {w w' : World} {F S : Nat → Prop} {A : Option Addr} {xs : List α} (h : d.S w F A xs) (hk : Kp S w w') (hn : ∀ b, F b → b < w.heap.size → ¬ S b) : d.S w' F A xs :=
  h.step fun b hb hl => hk.block b hl (hn b hb hl)
/-- What a row leads to lies in blocks that there are. -/
theorem OwnS.bound {α : Type} {d : Kd α} {e : TypeId} {w : World} {base : Nat} {F : Nat → Prop} {v : Value} {xs : List α} (h : OwnS d e w base F v xs) : OwnS d e w base (fun b => F b ∧ b < w.heap.size) v xs := by
  have hlt := h.lt
  obtain ⟨hF, inner, ho, hr⟩ := h
  exact ⟨fun k hk => ⟨hF k hk, (hlt k hk).2⟩, inner, ho, hr.imp fun q c _ hq => d.mono (fun b hb => ⟨⟨hb.1.1, hb.2⟩, hb.1.2⟩) (d.bound hq)⟩
/-- A pair of numbers: two cells. -/
def Kpp : Kd (Nat × Nat) where
  sz := 2
  R := fun _ _ p c => c = [.int .i64 (p.1 : Int), .int .i64 (p.2 : Int)]
  len := fun h => by rw [h]; rfl
  one := fun h u hu => by
    subst h
    simp at hu
    rcases hu with rfl | rfl <;> rfl
  mono := fun _ h => h
  move := fun _ h => h
  bound := fun h => h
theorem S_pp {w : World} {F : Nat → Prop} {A : Option Addr} {xs : List (Nat × Nat)} (h : Kpp.S w F A xs) {i : Nat} (hi : i < xs.length) :
    ∃ b off, A = some ⟨b, off, none⟩ ∧ F b ∧ b < w.heap.size ∧ w.cell? ⟨b, off + i * 2, none⟩ = some (.int .i64 (xs[i].1 : Int)) ∧ w.cell? ⟨b, off + i * 2 + 1, none⟩ = some (.int .i64 (xs[i].2 : Int)) := by
  obtain ⟨b, off, c, e, hF, hlt, hcl, hp, hj⟩ := h.at (List.getElem?_eq_getElem hi)
  have hc : c = [.int .i64 (xs[i].1 : Int), .int .i64 (xs[i].2 : Int)] := hp
  subst hc
  exact ⟨b, off, e, hF, hlt, hj 0 _ rfl, hj 1 _ rfl⟩
end Rp
end
