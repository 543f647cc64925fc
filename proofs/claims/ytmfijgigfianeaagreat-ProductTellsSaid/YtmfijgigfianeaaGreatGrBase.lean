/- Sets of bytes as bit vectors of 256 bits, their four words. How Go's data are told by Lean's: kinds of elements, slices that are read, rows of one's own. A range over a function whose iterator lays blocks and draws, and turns nothing: a law that keeps count of the draws too. Rows of one's own and slices that are read: what a walk wants of them. -/
import Derived.WalkKit
import Derived.Deep.LoopGhost
import Derived.Deep.RegionHeld3
import Derived.Deep.DeepCutAuto
import Derived.Deep.CutBlock
import Derived.BigQuiet
import Derived.Deep.QuietTactic
import Derived.KernelRfl
import Derived.Maps.AppendAt
import Derived.WalkLawsBesides
import Derived.RangeFuncNested
import Derived.RangeFuncBound
import Derived.RangeFuncCalls
import Derived.RangeFuncLeaves
import Derived.RangeFuncBox
import Derived.Shelf.Abstract
import Derived.Shelf.RegionOpen
import Derived.OwnWalkIn
import Derived.TacticsInMore
import Derived.LoopNIn
import Derived.LoopIn
import Derived.Lib.Hide
import Derived.Deep.AppendLies
import Derived.Laws.Rows
section
set_option linter.unusedVariables false
set_option linter.unusedSimpArgs false
set_option maxRecDepth 100000
namespace Rp
abbrev BSet := BitVec 256
def wd (s : BSet) (i : Nat) : BitVec 64 := s.extractLsb' (64 * i) 64
def ofWords (a b c d : BitVec 64) : BSet := (d ++ c ++ b ++ a : BitVec (64 + 64 + 64 + 64))
theorem wd_bit (s : BSet) (i k : Nat) (hk : k < 64) : (wd s i).getLsbD k = s.getLsbD (64 * i + k) := by
  simp [wd, BitVec.getLsbD_extractLsb', hk]
theorem has_wd (s : BSet) (c : Nat) : s.getLsbD c = (wd s (c / 64)).getLsbD (c % 64) := by
  rw [wd_bit _ _ _ (Nat.mod_lt _ (by omega)), Nat.div_add_mod]
theorem eq_of_wd {s t : BSet} (h0 : wd s 0 = wd t 0) (h1 : wd s 1 = wd t 1) (h2 : wd s 2 = wd t 2) (h3 : wd s 3 = wd t 3) : s = t := by
  apply BitVec.eq_of_getLsbD_eq
  intro c hc
  rw [has_wd, has_wd t]
  have hq : c / 64 = 0 ∨ c / 64 = 1 ∨ c / 64 = 2 ∨ c / 64 = 3 := by omega
  rcases hq with h | h | h | h <;> rw [h] <;> simp only [h0, h1, h2, h3]
theorem wd_ofWords0 (a b c d : BitVec 64) : wd (ofWords a b c d) 0 = a := by
  apply BitVec.eq_of_getLsbD_eq; intro k hk
  rw [wd_bit _ _ _ hk]; unfold ofWords
  rw [BitVec.getLsbD_append, if_pos (by omega)]; exact congrArg _ (by omega)
theorem wd_ofWords1 (a b c d : BitVec 64) : wd (ofWords a b c d) 1 = b := by
  apply BitVec.eq_of_getLsbD_eq; intro k hk
  rw [wd_bit _ _ _ hk]; unfold ofWords
  rw [BitVec.getLsbD_append, if_neg (by omega), BitVec.getLsbD_append, if_pos (by omega)]; exact congrArg _ (by omega)
theorem wd_ofWords2 (a b c d : BitVec 64) : wd (ofWords a b c d) 2 = c := by
  apply BitVec.eq_of_getLsbD_eq; intro k hk
  rw [wd_bit _ _ _ hk]; unfold ofWords
  rw [BitVec.getLsbD_append, if_neg (by omega), BitVec.getLsbD_append, if_neg (by omega), BitVec.getLsbD_append, if_pos (by omega)]; exact congrArg _ (by omega)
theorem wd_ofWords3 (a b c d : BitVec 64) : wd (ofWords a b c d) 3 = d := by
  apply BitVec.eq_of_getLsbD_eq; intro k hk
  rw [wd_bit _ _ _ hk]; unfold ofWords
  rw [BitVec.getLsbD_append, if_neg (by omega), BitVec.getLsbD_append, if_neg (by omega), BitVec.getLsbD_append, if_neg (by omega)]; exact congrArg _ (by omega)
theorem wd_or (s t : BSet) (i : Nat) : wd (s ||| t) i = wd s i ||| wd t i := by
  apply BitVec.eq_of_getLsbD_eq; intro k hk
  rw [wd_bit _ _ _ hk, BitVec.getLsbD_or, BitVec.getLsbD_or, wd_bit _ _ _ hk, wd_bit _ _ _ hk]
theorem wd_and (s t : BSet) (i : Nat) : wd (s &&& t) i = wd s i &&& wd t i := by
  apply BitVec.eq_of_getLsbD_eq; intro k hk
  rw [wd_bit _ _ _ hk, BitVec.getLsbD_and, BitVec.getLsbD_and, wd_bit _ _ _ hk, wd_bit _ _ _ hk]
theorem wd_not (s : BSet) (i : Nat) (hi : i < 4) : wd (~~~ s) i = ~~~ wd s i := by
  apply BitVec.eq_of_getLsbD_eq; intro k hk
  rw [wd_bit _ _ _ hk, BitVec.getLsbD_not, BitVec.getLsbD_not, wd_bit _ _ _ hk]
  simp [hk, show 64 * i + k < 256 by omega]
theorem wd_zero (i : Nat) : wd 0#256 i = 0#64 := by
  apply BitVec.eq_of_getLsbD_eq; intro k hk
  rw [wd_bit _ _ _ hk]; simp
theorem wd_set_bit (s : BSet) (c i : Nat) (hc : c < 256) (hi : i < 4) : wd (s ||| (1#256 <<< c)) i = if i = c / 64 then wd s i ||| (1#64 <<< (c % 64)) else wd s i := by
  apply BitVec.eq_of_getLsbD_eq; intro k hk
  rw [wd_bit _ _ _ hk, BitVec.getLsbD_or, BitVec.getLsbD_shiftLeft]
  have h1 : (1#256).getLsbD (64 * i + k - c) = decide (64 * i + k - c = 0) := by rw [BitVec.getLsbD_one]; simp
  split
  · rename_i h
    rw [BitVec.getLsbD_or, BitVec.getLsbD_shiftLeft, wd_bit _ _ _ hk, h1]
    have h2 : (1#64).getLsbD (k - c % 64) = decide (k - c % 64 = 0) := by rw [BitVec.getLsbD_one]; simp
    rw [h2]
    congr 1
    rw [Bool.eq_iff_iff]; simp; omega
  · rename_i h
    rw [wd_bit _ _ _ hk, h1]
    have : (decide (64 * i + k < 256) && !decide (64 * i + k < c) && decide (64 * i + k - c = 0)) = false := by
      rw [Bool.eq_false_iff]; simp; omega
    rw [this, Bool.or_false]
end Rp
end

section
set_option linter.unusedVariables false
set_option linter.unusedSimpArgs false
namespace Rp
open Go Go.RowKit

/-- A list of elements, each of as many cells: their cells one behind the other. -/
def Reps {α : Type} (R : α → List Value → Prop) (size : Nat) : List α → List Value → Prop
  | [], cs => cs = []
  | p :: ps, cs => ∃ c r, cs = c ++ r ∧ c.length = size ∧ R p c ∧ Reps R size ps r
theorem Reps.length {α : Type} {R : α → List Value → Prop} {size : Nat} : ∀ {ps : List α} {cs : List Value}, Reps R size ps cs → cs.length = ps.length * size
  | [], cs, h => by rw [show cs = [] from h]; simp
  | p :: ps, cs, ⟨c, r, e, hc, _, hr⟩ => by rw [e, List.length_append, hc, hr.length, List.length_cons, Nat.succ_mul, Nat.add_comm]
theorem Reps.imp {α : Type} {R R' : α → List Value → Prop} {size : Nat} : ∀ {ps : List α} {cs : List Value}, Reps R size ps cs → (∀ p c, p ∈ ps → R p c → R' p c) → Reps R' size ps cs
  | [], cs, h, _ => h
  | p :: ps, cs, ⟨c, r, e, hc, hp, hr⟩, hR => ⟨c, r, e, hc, hR _ _ (List.mem_cons_self) hp, hr.imp fun q d hq => hR q d (List.mem_cons_of_mem _ hq)⟩
theorem Reps.append {α : Type} {R : α → List Value → Prop} {size : Nat} : ∀ {ps qs : List α} {cs ds : List Value}, Reps R size ps cs → Reps R size qs ds → Reps R size (ps ++ qs) (cs ++ ds)
  | [], qs, cs, ds, h, h' => by rw [show cs = [] from h]; exact h'
  | p :: ps, qs, cs, ds, ⟨c, r, e, hc, hp, hr⟩, h' => ⟨c, r ++ ds, by rw [e, List.append_assoc], hc, hp, hr.append h'⟩
theorem Reps.one {α : Type} {R : α → List Value → Prop} {size : Nat} {p : α} {c : List Value} (h : R p c) (hc : c.length = size) : Reps R size [p] c := ⟨c, [], by simp, hc, h, rfl⟩
theorem Reps.get {α : Type} {R : α → List Value → Prop} {size : Nat} : ∀ {ps : List α} {cs : List Value}, Reps R size ps cs → ∀ i p, ps[i]? = some p → ∃ c, c.length = size ∧ R p c ∧ ∀ j, j < size → cs[i * size + j]? = c[j]?
  | [], cs, _, i, p, hp => by simp at hp
  | q :: ps, cs, ⟨c, r, e, hc, hq, hr⟩, 0, p, hp => by
    have : q = p := by simpa using hp
    subst this
    exact ⟨c, hc, hq, fun j hj => by rw [e, Nat.zero_mul, Nat.zero_add, List.getElem?_append_left (by omega)]⟩
  | q :: ps, cs, ⟨c, r, e, hc, hq, hr⟩, i + 1, p, hp => by
    obtain ⟨d, hd, hp', hj⟩ := hr.get i p (by simpa using hp)
    refine ⟨d, hd, hp', fun j hlt => ?_⟩
    rw [← hj j hlt, e, Nat.succ_mul, List.getElem?_append_right (by omega)]
    congr 1; omega

/-- A kind of elements: how many cells, what they say (F: in which blocks what they lead to may lie). -/
structure Kd (α : Type) where
  sz : Nat
  R : World → (Nat → Prop) → α → List Value → Prop
  len : ∀ {w F x c}, R w F x c → c.length = sz
  one : ∀ {w F x c}, R w F x c → ∀ u ∈ c, u.oneCell' = true
  mono : ∀ {w F G x c}, (∀ b, F b → G b) → R w F x c → R w G x c
  move : ∀ {w w1 : World} {F x c}, (∀ b, F b → w1.heap[b]? = w.heap[b]?) → R w F x c → R w1 F x c
  bound : ∀ {w : World} {F x c}, R w F x c → R w (fun b => F b ∧ b < w.heap.size) x c
namespace Kd
variable {α β : Type} {d : Kd α} {w w1 : World} {F G : Nat → Prop} {x : α} {c : List Value}
theorem step (h : d.R w F x c) (hm : ∀ b, F b → b < w.heap.size → w1.heap[b]? = w.heap[b]?) : d.R w1 F x c :=
  d.mono (fun b hb => hb.1) (d.move (fun b hb => hm b hb.1 hb.2) (d.bound h))
theorem below (h : d.R w F x c) (hb : Below w.heap.size w w1) : d.R w1 F x c := d.step h fun b _ hl => hb.block b hl

/-- One cell. -/
def scalar (enc : α → Value) (ok : α → Prop) (h1 : ∀ x, (enc x).oneCell' = true) : Kd α where
  sz := 1
  R := fun _ _ x c => c = [enc x] ∧ ok x
  len := fun h => by rw [h.1]; rfl
  one := fun h u hu => by rw [h.1] at hu; rw [List.mem_singleton.1 hu]; exact h1 _
  mono := fun _ h => h
  move := fun _ h => h
  bound := fun h => h
def pair (a : Kd α) (b : Kd β) : Kd (α × β) where
  sz := a.sz + b.sz
  R := fun w F x c => ∃ c0 c1, c = c0 ++ c1 ∧ a.R w F x.1 c0 ∧ b.R w F x.2 c1
  len := by rintro w F x c ⟨c0, c1, rfl, h0, h1⟩; rw [List.length_append, a.len h0, b.len h1]
  one := by
    rintro w F x c ⟨c0, c1, rfl, h0, h1⟩ u hu
    rcases List.mem_append.1 hu with hu | hu
    · exact a.one h0 u hu
    · exact b.one h1 u hu
  mono := by rintro w F G x c hm ⟨c0, c1, rfl, h0, h1⟩; exact ⟨c0, c1, rfl, a.mono hm h0, b.mono hm h1⟩
  move := by rintro w w1 F x c hm ⟨c0, c1, rfl, h0, h1⟩; exact ⟨c0, c1, rfl, a.move hm h0, b.move hm h1⟩
  bound := by rintro w F x c ⟨c0, c1, rfl, h0, h1⟩; exact ⟨c0, c1, rfl, a.bound h0, b.bound h1⟩
def iso (d : Kd α) (f : β → α) : Kd β where
  sz := d.sz
  R := fun w F x c => d.R w F (f x) c
  len := d.len
  one := d.one
  mono := d.mono
  move := d.move
  bound := d.bound

/-- The cells of a row from an address on. -/
def cellsAt (w : World) (b off : Nat) (cs : List Value) : Prop := ∀ j u, cs[j]? = some u → w.cell? ⟨b, off + j, none⟩ = some u
theorem cellsAt.move {w w1 : World} {b off : Nat} {cs : List Value} (h : cellsAt w b off cs) (hm : w1.heap[b]? = w.heap[b]?) : cellsAt w1 b off cs := fun j u hu => by
  rw [← h j u hu]; exact World.cell?_of_block (w := w) (a := ⟨b, off + j, none⟩) hm
theorem cellsAt.lt {w : World} {b off : Nat} {cs : List Value} (h : cellsAt w b off cs) (hc : cs ≠ []) : b < w.heap.size := by
  cases cs with
  | nil => exact absurd rfl hc
  | cons u r => exact World.block_lt_of_cell? w ⟨b, off + 0, none⟩ (h 0 u rfl)

/-- A slice that is read: its elements lie in a row from its address on. -/
def S (d : Kd α) (w : World) (F : Nat → Prop) (A : Option Addr) (xs : List α) : Prop :=
  xs ≠ [] → ∃ b off inner, A = some ⟨b, off, none⟩ ∧ F b ∧ b < w.heap.size ∧ Reps (d.R w F) d.sz xs inner ∧ cellsAt w b off inner
theorem S.mono {A : Option Addr} {xs : List α} (h : d.S w F A xs) (hm : ∀ b, F b → G b) : d.S w G A xs := fun hx => by
  obtain ⟨b, off, inner, e, hF, hlt, hr, hc⟩ := h hx
  exact ⟨b, off, inner, e, hm b hF, hlt, hr.imp fun _ _ _ => d.mono hm, hc⟩
theorem S.step {A : Option Addr} {xs : List α} (h : d.S w F A xs) (hm : ∀ b, F b → b < w.heap.size → w1.heap[b]? = w.heap[b]?) : d.S w1 F A xs := fun hx => by
  obtain ⟨b, off, inner, e, hF, hlt, hr, hc⟩ := h hx
  refine ⟨b, off, inner, e, hF, ?_, hr.imp fun _ _ _ h => d.step h hm, hc.move (hm b hF hlt)⟩
  have h1 := hm b hF hlt
  rw [Array.getElem?_eq_getElem hlt] at h1
  exact (Array.getElem?_eq_some_iff.1 h1).1
theorem S.bound {A : Option Addr} {xs : List α} (h : d.S w F A xs) : d.S w (fun b => F b ∧ b < w.heap.size) A xs := fun hx => by
  obtain ⟨b, off, inner, e, hF, hlt, hr, hc⟩ := h hx
  exact ⟨b, off, inner, e, ⟨hF, hlt⟩, hlt, hr.imp fun _ _ _ h => d.bound h, hc⟩
def slice (d : Kd α) : Kd (List α) where
  sz := 1
  R := fun w F xs c => ∃ A cap, c = [.slice A xs.length cap] ∧ xs.length ≤ cap ∧ cap ≤ 9223372036854775807 ∧ d.S w F A xs
  len := by rintro w F x c ⟨A, cap, rfl, _⟩; rfl
  one := by
    rintro w F x c ⟨A, cap, rfl, _⟩ u hu
    rw [List.mem_singleton.1 hu]; rfl
  mono := by rintro w F G x c hm ⟨A, cap, rfl, h1, h2, h⟩; exact ⟨A, cap, rfl, h1, h2, S.mono h hm⟩
  move := by
    rintro w w1 F x c hm ⟨A, cap, rfl, h1, h2, h⟩
    exact ⟨A, cap, rfl, h1, h2, S.step h fun b hb _ => hm b hb⟩
  bound := by rintro w F x c ⟨A, cap, rfl, h1, h2, h⟩; exact ⟨A, cap, rfl, h1, h2, S.bound h⟩
end Kd

/-- A row of one's own, in a block from base on: what its elements lead to does not lie in it. -/
def OwnS {α : Type} (d : Kd α) (e : TypeId) (w : World) (base : Nat) (F : Nat → Prop) (v : Value) (xs : List α) : Prop :=
  (∀ k, v.ownBlock = some k → F k) ∧ ∃ inner, w.ownsRow base e d.sz v xs.length inner ∧ Reps (d.R w (fun b => F b ∧ some b ≠ v.ownBlock)) d.sz xs inner
end Rp
namespace Rp
open Go Go.RowKit
abbrev u64 (x : BitVec 64) : Value := .int .u64 (x.toNat : Int)
abbrev setC (s : BSet) : Array Value := #[u64 (wd s 0), u64 (wd s 1), u64 (wd s 2), u64 (wd s 3)]
abbrev setV (s : BSet) : Value := .agg (setC s)
theorem setC_at (s : BSet) (c : Nat) (hc : c < 256) : (setC s).toList[c / 64]? = some (u64 (wd s (c / 64))) := by
  have hq : c / 64 = 0 ∨ c / 64 = 1 ∨ c / 64 = 2 ∨ c / 64 = 3 := by omega
  rcases hq with h | h | h | h <;> rw [h] <;> rfl
theorem wrap_toNat (x : BitVec 64) : IntKind.u64.wrap (x.toNat : Int) = (x.toNat : Int) := by
  rw [IntKind.wrap_u64]; have := x.isLt; omega
theorem ofInt_toNat (x : BitVec 64) : BitVec.ofInt IntKind.u64.bits (x.toNat : Int) = x := by
  show BitVec.ofInt 64 (x.toNat : Int) = x
  apply BitVec.eq_of_toNat_eq; rw [BitVec.toNat_ofInt]; have := x.isLt; omega
theorem bits_and (x y : BitVec 64) : bits .and .u64 (x.toNat : Int) (y.toNat : Int) = ((x &&& y).toNat : Int) := by
  unfold bits; rw [ofInt_toNat, ofInt_toNat]; exact wrap_toNat _
theorem bits_or (x y : BitVec 64) : bits .or .u64 (x.toNat : Int) (y.toNat : Int) = ((x ||| y).toNat : Int) := by
  unfold bits; rw [ofInt_toNat, ofInt_toNat]; exact wrap_toNat _
theorem bits_andNot (x y : BitVec 64) : bits .andNot .u64 (x.toNat : Int) (y.toNat : Int) = ((x &&& ~~~y).toNat : Int) := by
  unfold bits; rw [ofInt_toNat, ofInt_toNat]; exact wrap_toNat _
theorem bits_not (x : BitVec 64) : bits .xor .u64 18446744073709551615 (x.toNat : Int) = ((~~~x).toNat : Int) := by
  have h : (18446744073709551615 : Int) = ((BitVec.allOnes 64).toNat : Int) := by decide
  rw [h]; unfold bits; rw [ofInt_toNat, ofInt_toNat]
  show IntKind.u64.wrap ((BitVec.allOnes 64 ^^^ x).toNat : Int) = _
  rw [wrap_toNat, BitVec.allOnes_xor]
theorem has_bit (x : BitVec 64) (k : Nat) : (bits .and .u64 ((x.toNat : Int) / 2 ^ k) 1 == 1) = x.getLsbD k := by
  have h1 : ((x.toNat : Int) / 2 ^ k) = ((x >>> k).toNat : Int) := by
    rw [BitVec.toNat_ushiftRight, Nat.shiftRight_eq_div_pow]; simp
  have h2 : (1 : Int) = ((1#64).toNat : Int) := by decide
  rw [h1, h2, bits_and, Bool.eq_iff_iff, beq_iff_eq]
  rw [show x.getLsbD k = (x >>> k).getLsbD 0 by simp]
  generalize x >>> k = y
  have h3 : (y &&& 1#64).toNat = y.toNat % 2 := by rw [BitVec.toNat_and]; exact Nat.and_one_is_mod _
  rw [h3]
  have h4 : y.getLsbD 0 = decide (y.toNat % 2 = 1) := by
    rw [BitVec.getLsbD, Nat.testBit_zero]
  rw [h4]; simp; omega
end Rp
namespace Rp
open Go Go.RowKit
/-- Behind a call that keeps what lay: cells and marks read as before; laid for the walk. -/
theorem bcell {W w1 : World} (hb : Below W.heap.size W w1) : (∀ b o, b < W.heap.size → w1.cell? ⟨b, o, none⟩ = W.cell? ⟨b, o, none⟩) ∧ (∀ b o, b < W.heap.size → w1.frozen? ⟨b, o, none⟩ = W.frozen? ⟨b, o, none⟩) :=
  ⟨fun b o h => hb.cell (p := ⟨b, o, none⟩) h, fun b o h => hb.frozen (p := ⟨b, o, none⟩) h⟩
end Rp
namespace Rp
open Go Go.RowKit
theorem own_lower {W : World} {base base' : Nat} {e : TypeId} {size : Nat} {v : Value} {k : Nat} {xs : List Value} (h : W.ownsRow base e size v k xs) (hb : base' ≤ base) : W.ownsRow base' e size v k xs := by
  obtain ⟨h1, h2⟩ := h
  refine ⟨h1, ?_⟩
  rcases h2 with h2 | ⟨g, cap, cur, rfl, hg, r⟩
  · exact .inl h2
  · exact .inr ⟨g, cap, cur, rfl, Nat.le_trans hb hg, r⟩
theorem own_lt {w : World} {base : Nat} {e : TypeId} {size n : Nat} {v : Value} {xs : List Value} (h : w.ownsRow base e size v n xs) (k : Nat) (hk : v.ownBlock = some k) : k < w.heap.size := (h.lt k hk).2
theorem own_below {w w1 : World} {base : Nat} {e : TypeId} {size n : Nat} {v : Value} {xs : List Value} (h : w.ownsRow base e size v n xs) (hb : Below w.heap.size w w1) : w1.ownsRow base e size v n xs := by
  obtain ⟨h1, h2⟩ := h
  refine ⟨h1, ?_⟩
  rcases h2 with h2 | ⟨g, cap, cur, rfl, hg, hh, r⟩
  · exact .inl h2
  · exact .inr ⟨g, cap, cur, rfl, hg, (hb.block g (Array.getElem?_eq_some_iff.1 hh).1).trans hh, r⟩
end Rp
namespace Rp
open Go Go.RowKit
/-- The world at hand under a name. -/
theorem wp_name {P : Program} {c : Code} {Q : Exit → Act → World → Prop} {a : Act} {w : World} (h : ∀ W, w = W → c.wp P Q a W) : c.wp P Q a w := h w rfl
/-- What lay in W lies as it lay: laid as rules of the walk. -/
theorem stay_start (W : World) : (∀ b o, b < W.heap.size → W.drew.cell? ⟨b, o, none⟩ = W.cell? ⟨b, o, none⟩) ∧ (∀ b o, b < W.heap.size → W.drew.frozen? ⟨b, o, none⟩ = W.frozen? ⟨b, o, none⟩) ∧ Below W.heap.size W W.drew := ⟨fun _ _ _ => rfl, fun _ _ _ => rfl, (Below.refl _ _).drew⟩
theorem stay_step {W w1 w2 : World} (h : (∀ b o, b < W.heap.size → w1.cell? ⟨b, o, none⟩ = W.cell? ⟨b, o, none⟩) ∧ (∀ b o, b < W.heap.size → w1.frozen? ⟨b, o, none⟩ = W.frozen? ⟨b, o, none⟩) ∧ Below W.heap.size W w1) (hb : Below w1.heap.size w1 w2) :
    (∀ b o, b < W.heap.size → w2.cell? ⟨b, o, none⟩ = W.cell? ⟨b, o, none⟩) ∧ (∀ b o, b < W.heap.size → w2.frozen? ⟨b, o, none⟩ = W.frozen? ⟨b, o, none⟩) ∧ Below W.heap.size W w2 := by
  have h2 := h.2.2.trans (hb.mono h.2.2.size)
  exact ⟨fun b o hl => h2.cell (p := ⟨b, o, none⟩) hl, fun b o hl => h2.frozen (p := ⟨b, o, none⟩) hl, h2⟩
end Rp
namespace Rp
open Go Go.RowKit
/-- Nothing that lay has turned; there may be new blocks and draws. -/
structure Ext (w w' : World) : Prop where
  below : Below w.heap.size w w'
  drawn : w.drawn ≤ w'.drawn
theorem Ext.refl (w : World) : Ext w w := ⟨Below.refl _ _, Nat.le_refl _⟩
theorem Ext.size {w w' : World} (h : Ext w w') : w.heap.size ≤ w'.heap.size := h.below.size
theorem Ext.trans {a b c : World} (h : Ext a b) (k : Ext b c) : Ext a c := ⟨h.below.trans (k.below.mono h.size), Nat.le_trans h.drawn k.drawn⟩
theorem Ext.alloc {a w : World} (h : Ext a w) (o : Obj) : Ext a (w.alloc o) := ⟨h.below.alloc h.size o, h.drawn⟩
theorem Ext.drew {a w : World} (h : Ext a w) : Ext a w.drew := ⟨h.below.drew, Nat.le_succ_of_le h.drawn⟩
theorem Ext.setCell {a w : World} (h : Ext a w) {p : Addr} (hp : a.heap.size ≤ p.block) (u : Value) : Ext a (w.setCell p u) := ⟨h.below.setCell hp u, h.drawn⟩
theorem Ext.block {w w' : World} (h : Ext w w') {b : Nat} {o : Obj} (hb : w.heap[b]? = some o) : w'.heap[b]? = some o := (h.below.block b (Array.getElem?_eq_some_iff.1 hb).1).trans hb
theorem ecell {W w1 : World} (hb : Ext W w1) : (∀ b o, b < W.heap.size → w1.cell? ⟨b, o, none⟩ = W.cell? ⟨b, o, none⟩) ∧ (∀ b o, b < W.heap.size → w1.frozen? ⟨b, o, none⟩ = W.frozen? ⟨b, o, none⟩) := bcell hb.below
theorem stayE_start (W : World) : (∀ b o, b < W.heap.size → W.drew.cell? ⟨b, o, none⟩ = W.cell? ⟨b, o, none⟩) ∧ (∀ b o, b < W.heap.size → W.drew.frozen? ⟨b, o, none⟩ = W.frozen? ⟨b, o, none⟩) ∧ Ext W W.drew := ⟨fun _ _ _ => rfl, fun _ _ _ => rfl, (Ext.refl _).drew⟩
theorem stayE_step {W w1 w2 : World} (h : (∀ b o, b < W.heap.size → w1.cell? ⟨b, o, none⟩ = W.cell? ⟨b, o, none⟩) ∧ (∀ b o, b < W.heap.size → w1.frozen? ⟨b, o, none⟩ = W.frozen? ⟨b, o, none⟩) ∧ Ext W w1) (hb : Ext w1 w2) :
    (∀ b o, b < W.heap.size → w2.cell? ⟨b, o, none⟩ = W.cell? ⟨b, o, none⟩) ∧ (∀ b o, b < W.heap.size → w2.frozen? ⟨b, o, none⟩ = W.frozen? ⟨b, o, none⟩) ∧ Ext W w2 := by
  have h2 := h.2.2.trans hb
  exact ⟨fun b o hl => h2.below.cell (p := ⟨b, o, none⟩) hl, fun b o hl => h2.below.frozen (p := ⟨b, o, none⟩) hl, h2⟩
end Rp
end

section
set_option linter.unusedVariables false
set_option linter.unusedSimpArgs false
namespace Rp
open Go Go.RowKit
/-- What abides new blocks, draws, and the turn of a block that is no cells, from block B on. -/
structure StableE {β : Type} (E : World → World → Prop) (B : Nat) (I : β → World → Prop) : Prop where
  ext : ∀ s W W', I s W → E W W' → I s W'
  put : ∀ s W l o o', I s W → B ≤ l → W.heap[l]? = some o → o.isCells = false → I s (W.putObj l o')
/-- Nothing that lay has turned. -/
def Bel (W W' : World) : Prop := Below W.heap.size W W'
theorem Bel.block {w w' : World} (h : Bel w w') {b : Nat} {o : Obj} (hb : w.heap[b]? = some o) : w'.heap[b]? = some o := (Below.block h b (Array.getElem?_eq_some_iff.1 hb).1).trans hb
abbrev Stable {β : Type} (B : Nat) (I : β → World → Prop) : Prop := StableE Ext B I
theorem StableE.and {β : Type} {E : World → World → Prop} {B : Nat} {I I' : β → World → Prop} (h : StableE E B I) (h' : StableE E B I') : StableE E B (fun s W => I s W ∧ I' s W) :=
  ⟨fun s W W' hs he => ⟨h.ext s W W' hs.1 he, h'.ext s W W' hs.2 he⟩, fun s W l o o' hs hB hl ho => ⟨h.put s W l o o' hs.1 hB hl ho, h'.put s W l o o' hs.2 hB hl ho⟩⟩
theorem StableE.toExt {β : Type} {B : Nat} {I : β → World → Prop} (h : StableE Bel B I) : Stable B I := ⟨fun s W W' hs he => h.ext s W W' hs he.below, h.put⟩
/-- What speaks of the heap alone, cells and what is own: as for the elder law. -/
theorem Stable.of_own {β : Type} {B : Nat} {I : β → World → Prop} (h : Own I) : StableE Bel B I :=
  ⟨fun s W W' hs he => h s W W' none hs ⟨Below.os he, Below.tape he, Below.output he, Below.size he, fun k hk _ => Below.block he k hk⟩ (fun r e => by cases e),
   fun s W l o o' hs _ hl ho => h s W _ (some l) hs (grownBy_putObj' W l o') (fun r e => by cases e; exact ⟨o, hl, ho⟩)⟩
theorem stable_ext {β : Type} {w : World} {B : Nat} (hB : w.heap.size ≤ B) : Stable B (fun (_ : β) W => Ext w W) :=
  ⟨fun _ _ _ h k => h.trans k, fun _ W l o o' h hl _ _ => ⟨⟨h.below.os, h.below.tape, h.below.output, by simpa using h.below.size, fun k hk => (World.putObj_heap_other (by omega)).trans (h.below.block k hk)⟩, h.drawn⟩⟩
theorem stable_below {β : Type} {w : World} {B : Nat} (hB : w.heap.size ≤ B) : StableE Bel B (fun (_ : β) W => Below w.heap.size w W) :=
  ⟨fun _ _ _ h k => h.trans (Below.mono k h.size), fun _ W l o o' h hl _ _ => ⟨h.os, h.tape, h.output, by simpa using h.size, fun k hk => (World.putObj_heap_other (by omega)).trans (h.block k hk)⟩⟩
/-- A block of cells lies as it lay. -/
theorem stable_cells {β : Type} {B : Nat} (b : Nat) (G : β → Array Value → TypeId → (Nat × Nat) → Prop) : StableE Bel B (fun (s : β) W => ∃ cs t fr, W.heap[b]? = some (.cells cs t fr) ∧ G s cs t fr) :=
  ⟨fun _ _ _ ⟨cs, t, fr, h, hG⟩ k => ⟨cs, t, fr, Bel.block k h, hG⟩, fun _ W l o o' ⟨cs, t, fr, h, hG⟩ _ hl ho => ⟨cs, t, fr, (World.putObj_heap_other (fun e => by subst e; rw [h] at hl; cases hl; cases ho)).trans h, hG⟩⟩
theorem Ext.put {w W : World} (h : Ext w W) {l : Nat} (hl : w.heap.size ≤ l) (o' : Obj) : Ext w (W.putObj l o') := ⟨⟨h.below.os, h.below.tape, h.below.output, by simpa using h.below.size, fun k hk => (World.putObj_heap_other (by omega)).trans (h.below.block k hk)⟩, h.drawn⟩
theorem below_put {w W : World} (h : Below w.heap.size w W) {l : Nat} (hl : w.heap.size ≤ l) (o' : Obj) : Below w.heap.size w (W.putObj l o') := ⟨h.os, h.tape, h.output, by simpa using h.size, fun k hk => (World.putObj_heap_other (by omega)).trans (h.block k hk)⟩
theorem stable_const {β : Type} {E : World → World → Prop} {B : Nat} (p : β → Prop) : StableE E B (fun s _ => p s) := ⟨fun _ _ _ h _ => h, fun _ _ _ _ _ h _ _ _ => h⟩
/-- All cells but those of block b lie as they lay. -/
def KeepC (b : Nat) (W W' : World) : Prop := W.heap.size ≤ W'.heap.size ∧ ∀ k o, k ≠ b → W.heap[k]? = some o → o.isCells = true → W'.heap[k]? = some o
theorem keepC_t {b : Nat} : ∀ {A B C : World}, KeepC b A B → KeepC b B C → KeepC b A C := fun h k => ⟨Nat.le_trans h.1 k.1, fun i o hi ho hc => k.2 i o hi (h.2 i o hi ho hc) hc⟩
theorem keepC_b {b : Nat} {w : World} : ∀ (W : World) (l : Nat) (o o' : Obj), w.heap.size ≤ l → W.heap[l]? = some o → o.isCells = false → o.isWalk = false → KeepC b W (W.putObj l o') :=
  fun W l o o' _ hl ho _ => ⟨by simp, fun k o1 _ hk hc => (World.putObj_heap_other (fun e => by subst e; rw [hk] at hl; cases hl; rw [hc] at ho; cases ho)).trans hk⟩
theorem keepC_bel {b : Nat} {W W' : World} (h : Bel W W') : KeepC b W W' := ⟨Below.size h, fun k o _ hk _ => Bel.block h hk⟩
theorem keepC_set {b : Nat} (W : World) (p : Addr) (hp : p.block = b) (u : Value) : KeepC b W (W.setCell p u) := ⟨by simp, fun k o hk hb _ => (Below.heap_setCell W p u k (by omega)).trans hb⟩

def SeqE {α : Type} (E : World → World → Prop) (n : Nat) (P : Program) (g : Nat) (lb : Array Value) (encs : α → Array Value) (Kp : World → World → Prop) (S Sp : List α → Prop) (N : Nat) (w : World) : Prop :=
  ∀ (l : Nat) (J Jx : List α → World → Prop) (W : World), Below w.heap.size w W → (∀ s A A', J s A → E A A' → J s A') → (∀ s A A', Jx s A → E A A' → Jx s A') →
    (∀ pre x W1, J pre W1 → pre.length < N → YieldAt Fence.wide (n - 1) P l (encs x) W1 fun e W' =>
      (e = .returned (.bool true) ∧ J (pre ++ [x]) W' ∧ Kp W1 W') ∨ (e = .returned (.bool false) ∧ Jx (pre ++ [x]) W')) →
    J [] W →
    CallsIn Fence.wide n P g (#[.func (.yield l) #[] #[]] ++ lb) W fun e W' => (∃ v, e = .returned v) ∧ ((∃ xs, S xs ∧ J xs W') ∨ (∃ pre, Sp pre ∧ Jx pre W'))

abbrev SeqD {α : Type} := @SeqE α Ext
set_option maxHeartbeats 800000 in
theorem wpIn_rangeE (E : World → World → Prop) (hE : ∀ {A B}, Ext A B → E A B) (hEb : ∀ {A B : World}, E A B → ∀ {b : Nat} {o : Obj}, A.heap[b]? = some o → B.heap[b]? = some o) {P : Program} {n : Nat} {α : Type} {g : Operand} {ps : Array Tmp} {assign body : Code} {Q : Exit → Act → World → Prop} {a : Act} {w : World}
    (h1 : 1 ≤ n) {gf : Nat} {lb : Array Value} (hg : a.eval g = .func (.func gf) #[] lb) (eg : ∀ args w, (callFunc gf args).run P w = .ok (.enter gf args) w)
    {encs : α → Array Value} {Kp : World → World → Prop} {S Sp : List α → Prop} {N : Nat} {w0 : World} (hseq : SeqE E (n - 1) P gf lb encs Kp S Sp N w0)
    (hKt : ∀ {A B C : World}, Kp A B → Kp B C → Kp A C) (hKb : ∀ (W : World) (l : Nat) (o o' : Obj), w.heap.size ≤ l → W.heap[l]? = some o → o.isCells = false → o.isWalk = false → Kp W (W.putObj l o')) (hb0 : Below w0.heap.size w0 w) (hps : ∀ x, (encs x).size = ps.size)
    (I : List α → World → Prop) (Ix : Code → List α → World → Prop) (hI : StableE E w.heap.size I) (hIx : ∀ c, StableE E w.heap.size (Ix c)) (h0 : I [] w) (a₁ : α → Act)
    (hassign : ∀ (l : Nat) (x : α) (W : World) (K : Act → World → Prop), K (a₁ x) W →
      assign.wpIn (Fence.wide.inRound l) (n - 1 - 1) P (Exit.then K (fun _ _ _ => False)) { tmps := (ps.zip (encs x)).foldl (fun t (p, v) => t.setIfInBounds p v) a.tmps, defers := [] } W)
    (hbody : ∀ (l : Nat) (pre : List α) (x : α) (W : World), I pre W → pre.length < N → body.wpIn (Fence.wide.inRound l) (n - 1 - 1) P (ownPostG w.heap.size Kp I Ix (pre ++ [x]) W) (a₁ x) W)
    (hdone : ∀ (D : Nat) (xs : List α) (W : World), w.heap.size ≤ D → S xs → I xs W → W.heap[D]? = some (.deferred (some [])) → Q .normal { a with defers := { target := .collected D, args := #[] } :: a.defers } W)
    (hstop : ∀ (D : Nat) (c : Code) (pre : List α) (W : World), w.heap.size ≤ D → Sp pre → Ix c pre W → W.heap[D]? = some (.deferred (some [])) → c.wpIn Fence.wide n P Q { a with defers := { target := .collected D, args := #[] } :: a.defers } W) :
    (Code.rangeFunc g ps assign body).wpIn Fence.wide n P Q a w := by
  refine wpIn_rangeFunc ?_
  intro fn hfn
  obtain ⟨rec, hrec⟩ : ∃ rec : LoopState → Option Code → Loop, rec = fun st pe => { state := st, pending := pe, fn, tmps := a.tmps, params := ps, assign, body, defers := w.heap.size } := ⟨_, rfl⟩
  obtain ⟨W1, hW1⟩ : ∃ W1, (w.alloc (.deferred (some []))).alloc (.loop (rec .ready none)) = W1 := ⟨_, rfl⟩
  have hE1 : Ext w W1 := by rw [← hW1]; exact ((Ext.refl _).alloc _).alloc _
  have hL1 : W1.heap[w.heap.size + 1]? = some (.loop (rec .ready none)) := by
    rw [← hW1]; have := World.alloc_heap_new (w.alloc (.deferred (some []))) (.loop (rec .ready none)); rwa [World.size_alloc] at this
  have hK1 : W1.heap[w.heap.size]? = some (.deferred (some [])) := by
    rw [← hW1]; exact (Below.heap_alloc _ _ _ (by simp)).trans (World.alloc_heap_new w _)
  refine ⟨w.heap.size + 1, [{ target := .collected w.heap.size, args := #[] }], W1, { target := .fn (.func gf) lb, args := #[.func (.yield (w.heap.size + 1)) #[] #[]] }, W1, gf,
    #[.func (.yield (w.heap.size + 1)) #[] #[]] ++ lb, W1, ?_, ?_, ?_, ?_, fun _ => h1, ?_⟩
  · rw [← hW1, hrec]; exact run_enterLoop_outer _ _ _ _ _
  · simp only [resolve, hg]
    simp [go_sem]
  · intro f' hf'; trivial
  · simp [invoke, go_sem, eg]
  · refine (hseq (w.heap.size + 1)
      (fun pre W => I pre W ∧ W.heap[w.heap.size + 1]? = some (.loop (rec .ready none)) ∧ W.heap[w.heap.size]? = some (.deferred (some [])))
      (fun pre W => ∃ c, Ix c pre W ∧ W.heap[w.heap.size + 1]? = some (.loop (rec .done (some c))) ∧ W.heap[w.heap.size]? = some (.deferred (some [])))
      W1 (hb0.trans (hE1.below.mono hb0.size))
      (fun s A A' hs he => ⟨hI.ext s A A' hs.1 he, hEb he hs.2.1, hEb he hs.2.2⟩)
      (fun s A A' ⟨c, hc, hl, hk⟩ he => ⟨c, (hIx c).ext s A A' hc he, hEb he hl, hEb he hk⟩)
      ?_ ⟨hI.ext _ _ _ h0 (hE hE1), hL1, hK1⟩).mono ?_
    · rintro pre x W ⟨hi, hl, hk⟩ hlen
      have hlt : w.heap.size + 1 < W.heap.size := (Array.getElem?_eq_some_iff.1 hl).1
      have hy := run_yield (P := P) (args := encs x) hl (by rw [hrec]; exact hps x)
      rw [hrec] at hy
      refine ⟨fn, _, assign, body, hy, roundIn_of_wpIn hfn (hassign _ x W _ ⟨_, run_beginRound hl (by rw [hrec]), ?_⟩)⟩
      have hl2 : (W.putObj (w.heap.size + 1) (.loop { rec .ready none with state := .busy })).heap[w.heap.size + 1]? = some (.loop { rec .ready none with state := .busy }) := World.putObj_heap_same hlt
      have hk2 : (W.putObj (w.heap.size + 1) (.loop { rec .ready none with state := .busy })).heap[w.heap.size]? = some (.deferred (some [])) := (World.putObj_heap_other (by omega)).trans hk
      have hw2 : Kp W (W.putObj (w.heap.size + 1) (.loop { rec .ready none with state := .busy })) := hKb _ _ _ _ (by omega) hl rfl rfl
      refine wpIn_mono (hbody _ pre x _ (hI.put _ _ _ _ _ hi (by omega) hl rfl) hlen) ?_
      have fin : ∀ (jump : Option Code) (W3 : World), KeepsFrom w.heap.size (W.putObj (w.heap.size + 1) (.loop { rec .ready none with state := .busy })) W3 →
          (Instr.endRound (w.heap.size + 1) jump).run P W3 = .ok (.bool jump.isNone) (W3.putObj (w.heap.size + 1) (.loop (rec (if jump.isNone then .ready else .done) jump))) ∧
          W3.heap[w.heap.size + 1]? = some (.loop { rec .ready none with state := .busy }) ∧
          (W3.putObj (w.heap.size + 1) (.loop (rec (if jump.isNone then .ready else .done) jump))).heap[w.heap.size + 1]? = some (.loop (rec (if jump.isNone then .ready else .done) jump)) ∧
          (W3.putObj (w.heap.size + 1) (.loop (rec (if jump.isNone then .ready else .done) jump))).heap[w.heap.size]? = some (.deferred (some [])) := fun jump W3 hk3 => by
        have hl3 := hk3.same _ _ (by omega) hl2 rfl
        have := run_endRound (P := P) jump hl3
        rw [hrec] at this ⊢
        exact ⟨this, by rw [hrec] at hl3; exact hl3, World.putObj_heap_same (Array.getElem?_eq_some_iff.1 hl3).1, (World.putObj_heap_other (by omega)).trans (hk3.same _ _ (Nat.le_refl _) hk2 rfl)⟩
      rintro e a3 W3 hp
      cases e with
      | normal =>
        obtain ⟨hk3, hkp3, hi3⟩ := hp
        obtain ⟨hr, hl3, hl4, hk4⟩ := fin none W3 hk3
        exact ⟨_, _, hr, .inl ⟨rfl, ⟨hI.put _ _ _ _ _ hi3 (by omega) hl3 rfl, hl4, hk4⟩, hKt (hKt hw2 hkp3) (hKb _ _ _ _ (by omega) hl3 rfl rfl)⟩⟩
      | ret =>
        obtain ⟨hk3, hi3⟩ := hp
        obtain ⟨hr, hl3, hl4, hk4⟩ := fin (some .ret) W3 hk3
        exact ⟨_, _, hr, .inr ⟨rfl, .ret, (hIx _).put _ _ _ _ _ hi3 (by omega) hl3 rfl, hl4, hk4⟩⟩
      | exit id =>
        obtain ⟨hk3, hi3⟩ := hp
        obtain ⟨hr, hl3, hl4, hk4⟩ := fin (some (.exit id)) W3 hk3
        exact ⟨_, _, hr, .inr ⟨rfl, .exit id, (hIx _).put _ _ _ _ _ hi3 (by omega) hl3 rfl, hl4, hk4⟩⟩
      | goto t =>
        obtain ⟨hk3, hi3⟩ := hp
        obtain ⟨hr, hl3, hl4, hk4⟩ := fin (some (.goto t)) W3 hk3
        exact ⟨_, _, hr, .inr ⟨rfl, .goto t, (hIx _).put _ _ _ _ _ hi3 (by omega) hl3 rfl, hl4, hk4⟩⟩
      | panic ch => exact hp.elim
      | outgrown => exact hp.elim
    · rintro e W2 ⟨⟨v, rfl⟩, (⟨xs, hS, hi, hl, hk⟩ | ⟨pre, hSp, c, hi, hl, hk⟩)⟩
      · exact ⟨none, _, by have := run_endLoop (P := P) hl (by rw [hrec]; simp); rw [hrec] at this; exact this, hdone _ xs _ (Nat.le_refl _) hS (hI.put _ _ _ _ _ hi (by omega) hl rfl) ((World.putObj_heap_other (by omega)).trans hk)⟩
      · exact ⟨some c, _, by have := run_endLoop (P := P) hl (by rw [hrec]; simp); rw [hrec] at this; exact this, hstop _ c pre _ (Nat.le_refl _) hSp ((hIx c).put _ _ _ _ _ hi (by omega) hl rfl) ((World.putObj_heap_other (by omega)).trans hk)⟩
end Rp
end

section
set_option linter.unusedVariables false
set_option linter.unusedSimpArgs false
namespace Rp
open Go Go.RowKit
/-- From w to w' only the row r may have turned; r' is r, or a new block. -/
structure Mov (w w' : World) (r r' : Option Nat) : Prop where
  os : w'.os = w.os
  tape : w'.tape = w.tape
  output : w'.output = w.output
  size : w.heap.size ≤ w'.heap.size
  block : ∀ k, k < w.heap.size → some k ≠ r → w'.heap[k]? = w.heap[k]?
  at_ : r' = r ∨ ∃ b, r' = some b ∧ w.heap.size ≤ b
theorem Mov.refl (w : World) (r : Option Nat) : Mov w w r r := ⟨rfl, rfl, rfl, Nat.le_refl _, fun _ _ _ => rfl, .inl rfl⟩
theorem Mov.of_below {w w' : World} (h : Below w.heap.size w w') (r : Option Nat) : Mov w w' r r := ⟨h.os, h.tape, h.output, h.size, fun k hk _ => h.block k hk, .inl rfl⟩
theorem Mov.of_ext {w w' : World} (h : Ext w w') (r : Option Nat) : Mov w w' r r := .of_below h.below r
theorem Mov.of_grown {w w' : World} {r r' : Option Nat} (h : w.grownBy w' r) (ha : r' = r ∨ ∃ b, r' = some b ∧ w.heap.size ≤ b) : Mov w w' r r' := ⟨h.os, h.tape, h.output, h.size, h.block, ha⟩
theorem Mov.trans {a b c : World} {r s t : Option Nat} (h : Mov a b r s) (k : Mov b c s t) : Mov a c r t := by
  refine ⟨k.os.trans h.os, k.tape.trans h.tape, k.output.trans h.output, Nat.le_trans h.size k.size, fun i hi hr => ?_, ?_⟩
  · refine (k.block i (Nat.lt_of_lt_of_le hi h.size) ?_).trans (h.block i hi hr)
    rcases h.at_ with h1 | ⟨b', h1, h2⟩
    · rw [h1]; exact hr
    · rw [h1]; intro e; injection e with e; omega
  · rcases k.at_ with h1 | ⟨b', h1, h2⟩
    · rw [h1]; exact h.at_
    · exact .inr ⟨b', h1, Nat.le_trans h.size h2⟩
theorem Mov.alloc {a w : World} {r s : Option Nat} (h : Mov a w r s) (o : Obj) : Mov a (w.alloc o) r s := h.trans (.of_ext ((Ext.refl _).alloc o) s)
theorem Mov.drew {a w : World} {r s : Option Nat} (h : Mov a w r s) : Mov a w.drew r s := h.trans (.of_ext (Ext.refl _).drew s)
/-- A store into a block of the walk's own, that is new. -/
theorem Mov.setCell {a w : World} {r s : Option Nat} (h : Mov a w r s) {p : Addr} (hp : a.heap.size ≤ p.block) (u : Value) : Mov a (w.setCell p u) r s := by
  refine ⟨h.os, h.tape, h.output, by simpa using h.size, fun i hi hr => (Below.heap_setCell w p u i (by omega)).trans (h.block i hi hr), h.at_⟩
theorem Mov.below {a w w' : World} {B : Nat} {r s : Option Nat} (hb : Below B a w) (h : Mov w w' r s) (hB : B ≤ w.heap.size) (hr : ∀ k, r = some k → B ≤ k) : Below B a w' :=
  hb.trans ⟨h.os, h.tape, h.output, h.size, fun k hk => h.block k (by omega) (fun e => by have := hr k e.symm; omega)⟩
theorem Mov.none_below {w w' : World} {s : Option Nat} (h : Mov w w' none s) : Below w.heap.size w w' := ⟨h.os, h.tape, h.output, h.size, fun k hk => h.block k hk (by simp)⟩
theorem Mov.cell {w w' : World} {r s : Option Nat} (h : Mov w w' r s) {b o : Nat} {v : Value} (hc : w.cell? ⟨b, o, none⟩ = some v) (hr : some b ≠ r) : w'.cell? ⟨b, o, none⟩ = some v := by
  rw [← hc]; exact World.cell?_of_block (w := w) (a := ⟨b, o, none⟩) (h.block b (World.block_lt_of_cell? w ⟨b, o, none⟩ hc) hr)
theorem Mov.heap {w w' : World} {r s : Option Nat} (h : Mov w w' r s) {b : Nat} {o : Obj} (hb : w.heap[b]? = some o) (hr : some b ≠ r) : w'.heap[b]? = some o := (h.block b (Array.getElem?_eq_some_iff.1 hb).1 hr).trans hb
/-- A row of one's own that is another one. -/
theorem Mov.own {w w' : World} {r s : Option Nat} (h : Mov w w' r s) {base : Nat} {e : TypeId} {size n : Nat} {v : Value} {xs : List Value} (ho : w.ownsRow base e size v n xs) (hr : v.ownBlock = none ∨ v.ownBlock ≠ r) : w'.ownsRow base e size v n xs :=
  ho.kept ⟨h.os, h.tape, h.output, h.size, h.block⟩ hr

/-! ### kinds -/
def Kset : Kd BSet where
  sz := 4
  R := fun _ _ s c => c = (setC s).toList
  len := fun h => by rw [h]; rfl
  one := fun h u hu => by
    subst h
    simp [setC] at hu
    rcases hu with rfl | rfl | rfl | rfl <;> rfl
  mono := fun _ h => h
  move := fun _ h => h
  bound := fun h => h
def inI64 (n : Int) : Prop := -9223372036854775808 ≤ n ∧ n ≤ 9223372036854775807
def Kint : Kd Int := Kd.scalar (Value.int .i64) inI64 (fun _ => rfl)
abbrev byteV (x : UInt8) : Value := .int .u8 (x.toNat : Int)
def Kbyte : Kd UInt8 := Kd.scalar byteV (fun _ => True) (fun _ => rfl)
abbrev Kints : Kd (List Int) := Kint.slice
theorem Kd.S.at {α : Type} {d : Kd α} {w : World} {F : Nat → Prop} {A : Option Addr} {xs : List α} (h : d.S w F A xs) {i : Nat} {x : α} (hx : xs[i]? = some x) :
    ∃ b off c, A = some ⟨b, off, none⟩ ∧ F b ∧ b < w.heap.size ∧ c.length = d.sz ∧ d.R w F x c ∧ ∀ j u, c[j]? = some u → w.cell? ⟨b, off + i * d.sz + j, none⟩ = some u := by
  obtain ⟨b, off, inner, e, hF, hlt, hr, hc⟩ := h (fun e => by rw [e] at hx; simp at hx)
  obtain ⟨c, hcl, hp, hj⟩ := hr.get i x hx
  refine ⟨b, off, c, e, hF, hlt, hcl, hp, fun j u hu => ?_⟩
  have hjs : j < d.sz := by rw [← hcl]; exact (List.getElem?_eq_some_iff.1 hu).1
  have := hc (i * d.sz + j) u (by rw [hj j hjs]; exact hu)
  rwa [← Nat.add_assoc] at this
theorem S_set {w : World} {F : Nat → Prop} {A : Option Addr} {xs : List BSet} (h : Kset.S w F A xs) {i : Nat} (hi : i < xs.length) :
    ∃ b off, A = some ⟨b, off, none⟩ ∧ F b ∧ b < w.heap.size ∧ w.cell? ⟨b, off + i * 4, none⟩ = some (u64 (wd xs[i] 0)) ∧ w.cell? ⟨b, off + i * 4 + 1, none⟩ = some (u64 (wd xs[i] 1)) ∧ w.cell? ⟨b, off + i * 4 + 2, none⟩ = some (u64 (wd xs[i] 2)) ∧ w.cell? ⟨b, off + i * 4 + 3, none⟩ = some (u64 (wd xs[i] 3)) := by
  obtain ⟨b, off, c, e, hF, hlt, hcl, hp, hj⟩ := h.at (List.getElem?_eq_getElem hi)
  have hc : c = (setC xs[i]).toList := hp
  subst hc
  exact ⟨b, off, e, hF, hlt, hj 0 _ rfl, hj 1 _ rfl, hj 2 _ rfl, hj 3 _ rfl⟩
theorem S_int {w : World} {F : Nat → Prop} {A : Option Addr} {xs : List Int} (h : Kint.S w F A xs) {i : Nat} (hi : i < xs.length) :
    ∃ b off, A = some ⟨b, off, none⟩ ∧ F b ∧ b < w.heap.size ∧ w.cell? ⟨b, off + i, none⟩ = some (.int .i64 xs[i]) ∧ inI64 xs[i] := by
  obtain ⟨b, off, c, e, hF, hlt, hcl, hp, hj⟩ := h.at (List.getElem?_eq_getElem hi)
  have hc : c = [.int .i64 xs[i]] := hp.1
  subst hc
  have := hj 0 _ rfl
  exact ⟨b, off, e, hF, hlt, by simpa [Kint, Kd.scalar] using this, hp.2⟩
theorem S_byte {w : World} {F : Nat → Prop} {A : Option Addr} {xs : List UInt8} (h : Kbyte.S w F A xs) {i : Nat} (hi : i < xs.length) :
    ∃ b off, A = some ⟨b, off, none⟩ ∧ F b ∧ b < w.heap.size ∧ w.cell? ⟨b, off + i, none⟩ = some (byteV xs[i]) := by
  obtain ⟨b, off, c, e, hF, hlt, hcl, hp, hj⟩ := h.at (List.getElem?_eq_getElem hi)
  have hc : c = [byteV xs[i]] := hp.1
  subst hc
  have := hj 0 _ rfl
  exact ⟨b, off, e, hF, hlt, by simpa [Kbyte, Kd.scalar] using this⟩
theorem S_slice {α : Type} {d : Kd α} {w : World} {F : Nat → Prop} {A : Option Addr} {xs : List (List α)} (h : d.slice.S w F A xs) {i : Nat} (hi : i < xs.length) :
    ∃ b off A' cap, A = some ⟨b, off, none⟩ ∧ F b ∧ b < w.heap.size ∧ w.cell? ⟨b, off + i, none⟩ = some (.slice A' xs[i].length cap) ∧ xs[i].length ≤ cap ∧ cap ≤ 9223372036854775807 ∧ d.S w F A' xs[i] := by
  obtain ⟨b, off, c, e, hF, hlt, hcl, ⟨A', cap, rfl, h1, h2, h3⟩, hj⟩ := h.at (List.getElem?_eq_getElem hi)
  have := hj 0 _ rfl
  exact ⟨b, off, A', cap, e, hF, hlt, by simpa [Kd.slice] using this, h1, h2, h3⟩

/-! ### rows of one's own -/
theorem OwnS.nil {α : Type} (d : Kd α) (e : TypeId) (w : World) (base : Nat) (F : Nat → Prop) : OwnS d e w base F (.slice none 0 0) [] :=
  ⟨fun k hk => by simp [Value.ownBlock] at hk, [], World.ownsRow_nil _ _ _ _, rfl⟩
/-- What is owned is read. -/
theorem OwnS.reads {α : Type} {d : Kd α} {e : TypeId} {w : World} {base : Nat} {F : Nat → Prop} {v : Value} {xs : List α} (h : OwnS d e w base F v xs) :
    ∃ A cap, v = .slice A xs.length cap ∧ xs.length ≤ cap ∧ cap ≤ 9223372036854775807 ∧ d.S w F A xs := by
  obtain ⟨hF, inner, ho, hr⟩ := h
  rcases ho.2 with ⟨rfl, h0⟩ | ⟨g, cap, cur, rfl, hb, hh, hnc, hcm, hcs, htake⟩
  · have : xs = [] := List.eq_nil_of_length_eq_zero h0
    subst this
    exact ⟨none, 0, rfl, by simp, by simp, fun hx => absurd rfl hx⟩
  · refine ⟨_, cap, rfl, hnc, by simpa [maxLen] using hcm, fun hx => ⟨g, 0, inner, rfl, hF g (by simp [Value.ownBlock]), (Array.getElem?_eq_some_iff.1 hh).1, hr.imp fun _ _ _ h => d.mono (fun b hb => hb.1) h, fun j u hu => ?_⟩⟩
    have := ho.cells (g := g) (by simp [Value.ownBlock]) j u hu
    rw [Addr.add_lit] at this
    exact this
theorem OwnS.slice {α : Type} {d : Kd α} {e : TypeId} {w : World} {base : Nat} {F : Nat → Prop} {v : Value} {xs : List α} (h : OwnS d e w base F v xs) : d.slice.R w F xs [v] := by
  obtain ⟨A, cap, rfl, h1, h2, h3⟩ := h.reads
  exact ⟨A, cap, rfl, h1, h2, h3⟩
theorem OwnS.step {α : Type} {d : Kd α} {e : TypeId} {w w1 : World} {base : Nat} {F : Nat → Prop} {v : Value} {xs : List α} (h : OwnS d e w base F v xs) (hm : ∀ b, F b → b < w.heap.size → w1.heap[b]? = w.heap[b]?) : OwnS d e w1 base F v xs := by
  obtain ⟨hF, inner, ho, hr⟩ := h
  refine ⟨hF, inner, ⟨ho.1, ?_⟩, hr.imp fun _ _ _ h => d.step h fun b hb hl => hm b hb.1 hl⟩
  rcases ho.2 with h2 | ⟨g, cap, cur, rfl, hb, hh, r⟩
  · exact .inl h2
  · exact .inr ⟨g, cap, cur, rfl, hb, (hm g (hF g (by simp [Value.ownBlock])) (Array.getElem?_eq_some_iff.1 hh).1).trans hh, r⟩
theorem OwnS.lower {α : Type} {d : Kd α} {e : TypeId} {w : World} {base base' : Nat} {F : Nat → Prop} {v : Value} {xs : List α} (h : OwnS d e w base F v xs) (hb : base' ≤ base) : OwnS d e w base' F v xs := by
  obtain ⟨hF, inner, ho, hr⟩ := h
  exact ⟨hF, inner, own_lower ho hb, hr⟩
theorem OwnS.mono {α : Type} {d : Kd α} {e : TypeId} {w : World} {base : Nat} {F G : Nat → Prop} {v : Value} {xs : List α} (h : OwnS d e w base F v xs) (hm : ∀ b, F b → G b) : OwnS d e w base G v xs := by
  obtain ⟨hF, inner, ho, hr⟩ := h
  exact ⟨fun k hk => hm k (hF k hk), inner, ho, hr.imp fun _ _ _ h => d.mono (fun b hb => ⟨hm b hb.1, hb.2⟩) h⟩
theorem OwnS.lt {α : Type} {d : Kd α} {e : TypeId} {w : World} {base : Nat} {F : Nat → Prop} {v : Value} {xs : List α} (h : OwnS d e w base F v xs) : ∀ k, v.ownBlock = some k → base ≤ k ∧ k < w.heap.size := by
  obtain ⟨hF, inner, ho, hr⟩ := h
  exact ho.lt
section
variable {P : Program} {ops : Array Oper} {rest : List Oper} {o : Oper} {a : Act} {Q : Exit → Act → World → Prop} {α : Type}
/-- append(v, x), behind 'at_builtin': the goal's world is W.alloc of the box of x's cells. -/
theorem own_append (d : Kd α) (W : World) (base g : Nat) (hgd : o.guard = none) (s x : Operand) (t e : TypeId) (z : Value) (bytes : Nat)
    (ho : o.op = .call { callee := .builtin .append, args := #[s, x], argTypes := #[t, t] })
    (ht : P.underlying t = some (.slice e)) (hinfo : (P.info? e).map (fun i => (i.zero, i.size, i.bytes)) = some (some z, d.sz, bytes)) (hz : z.cells.size = d.sz) (hs0 : 0 < d.sz) (hb0 : 0 < bytes)
    (v : Value) (xs : List α) (p : α) (cs : List Value) (F : Nat → Prop) (hs : a.eval s = v) (hx : a.eval x = .slice (some ⟨g, 0, none⟩) 1 1) (hgW : g = W.heap.size) (hp : d.R W (fun b => F b ∧ some b ≠ v.ownBlock) p cs)
    (HO : OwnS d e W base F v xs) (hfresh : ∀ k, W.heap.size ≤ k → F k) (hbase : base ≤ W.heap.size) (hl : (xs.length + 1) * bytes ≤ 140737488355328)
    (h : ∀ v1 w1, OwnS d e w1 base F v1 (xs ++ [p]) → Mov W w1 v.ownBlock v1.ownBlock → (∃ g cap, v1 = .slice (some ⟨g, 0, none⟩) (xs.length + 1) cap) → wpList P ops Q rest (a.put o.dst v1) w1) :
    wpList P ops Q (o :: rest) a (W.alloc (.cells cs.toArray e)) := by
  subst hgW
  obtain ⟨hF, inner, hown, hr⟩ := HO
  obtain ⟨i0, hi, hzz⟩ := Option.map_eq_some_iff.1 hinfo
  simp only [Prod.mk.injEq] at hzz
  obtain ⟨hz0, hz1, hz2⟩ := hzz
  have hlen : xs.length + 1 ≤ 140737488355328 := Nat.le_trans (Nat.le_mul_of_pos_right _ hb0) hl
  refine wpList_append_own_at (W.alloc (.cells cs.toArray e)) hgd s x t ho base e i0 z d.sz bytes ht hi hz0 hz1 hz2 hz hs0 v xs.length inner hs (hown.alloc _) ⟨W.heap.size, 0, none⟩ 1 1 cs hx (by rw [d.len hp]; simp)
    (by simpa using World.news_of_block (cs := cs.toArray) (t := e) (fr := (0, 0)) (heap_alloc_new W (.cells cs.toArray e))) (d.one hp) (by simp only [maxLen]; omega) hl (by simp; omega) ?_
  intro v1 w1 hown1 hg1 hnil hat
  have hat' : v1.ownBlock = v.ownBlock ∨ ∃ b, v1.ownBlock = some b ∧ W.heap.size ≤ b := hat.imp id fun h => ⟨_, h, by simp⟩
  have hm : Mov W w1 v.ownBlock v1.ownBlock := Mov.trans (.of_ext ((Ext.refl _).alloc _) _) (.of_grown hg1 (hat.imp id fun h => ⟨_, h, Nat.le_refl _⟩))
  have hne : ∀ k, some k ≠ v.ownBlock → k < W.heap.size → some k ≠ v1.ownBlock := by
    intro k hk hlt
    rcases hat' with h | ⟨b, hb, hle⟩
    · rw [h]; exact hk
    · rw [hb]; intro he; injection he with he; omega
  have stp : ∀ {q : α} {c : List Value}, d.R W (fun b => F b ∧ some b ≠ v.ownBlock) q c → d.R w1 (fun b => F b ∧ some b ≠ v1.ownBlock) q c := by
    intro q c hq
    have h1 := d.move (w1 := w1) (fun k hk => hm.block k hk.2 hk.1.2) (d.bound hq)
    exact d.mono (fun k hk => ⟨hk.1.1, hne k hk.1.2 hk.2⟩) h1
  refine h v1 w1 ⟨fun k hk => ?_, inner ++ cs, ?_, ?_⟩ hm ?_
  · rcases hat' with h | ⟨b, hb, hle⟩
    · exact hF k (h ▸ hk)
    · rw [hb] at hk; injection hk with hk; exact hfresh k (by omega)
  · rw [List.length_append, List.length_singleton]; exact hown1
  · exact (hr.imp fun _ _ _ h => stp h).append (Reps.one (stp hp) (d.len hp))
  · rcases hown1.2 with ⟨_, h0⟩ | ⟨g, cap, cur, hv, _⟩
    · omega
    · exact ⟨g, cap, hv⟩
end
end Rp
end
