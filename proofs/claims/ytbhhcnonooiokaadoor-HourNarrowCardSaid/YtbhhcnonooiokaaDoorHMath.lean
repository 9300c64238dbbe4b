/- Hours: what is valid, and what is told, as plain definitions. No condition. -/
import Derived.Test.YtbhhcnonooiokaaDoorHTy
set_option linter.unusedSimpArgs false
set_option linter.unusedVariables false
namespace Go.Proofs.YtbhhcnonooiokaaDoor
open Go Go.RowKit

def SpIn (s : Sp) (lo hi : Int) : Prop := lo ≤ s.lo ∧ s.lo ≤ s.hi ∧ s.hi ≤ hi
instance (s : Sp) (lo hi : Int) : Decidable (SpIn s lo hi) := by unfold SpIn; exact inferInstance
def SrOk (s : Sr) : Prop := SpIn s.rise (-100000) 100000 ∧ SpIn s.shift 0 10000
structure CkOk (c : Ck) : Prop where
  nm : c.mrk.1 ≤ 24
  ns : c.str.1 ≤ 12
  mrk : ∀ i < c.mrk.1, SpIn (c.mrk.2 i) (-100000) 100000
  up : ∀ i < c.mrk.1, 0 < i → (c.mrk.2 (i - 1)).lo ≤ (c.mrk.2 i).lo ∧ (c.mrk.2 (i - 1)).hi ≤ (c.mrk.2 i).hi
  sr : ∀ i < c.str.1, SrOk (c.str.2 i)
  hand : SpIn c.hand 0 60000
  sinks : SpIn c.sinks 1000 100000
def DayOk (day : Int) : Prop := 0 ≤ day ∧ day ≤ 100000
instance (day : Int) : Decidable (DayOk day) := by unfold DayOk; exact inferInstance
/-- a telling is valid for a clock -/
def TlOk (c : Ck) (t : Tl) : Prop :=
  (t.kind = 1 ∧ 0 ≤ t.which ∧ t.which < c.mrk.1) ∨ (t.kind = 2 ∧ 0 ≤ t.which ∧ t.which + 1 < c.mrk.1) ∨
  (t.kind = 3 ∧ (0 ≤ t.which ∧ t.which < c.str.1) ∧ 0 ≤ t.hands ∧ t.hands ≤ 20) ∨ (t.kind = 4 ∧ SpIn t.word (-100000) 100000)
instance (c : Ck) (t : Tl) : Decidable (TlOk c t) := by unfold TlOk; exact inferInstance
/-- what a telling tells, in thousandths -/
def tellF (c : Ck) (day : Int) (t : Tl) : Sp :=
  if t.kind = 1 then ⟨1000 * (c.mrk.2 t.which.toNat).lo, 1000 * (c.mrk.2 t.which.toNat).hi⟩
  else if t.kind = 2 then ⟨1000 * (c.mrk.2 t.which.toNat).lo, 1000 * (c.mrk.2 (t.which.toNat + 1)).hi⟩
  else if t.kind = 3 then ⟨1000 * (c.str.2 t.which.toNat).rise.lo - day * (c.str.2 t.which.toNat).shift.hi + t.hands * c.hand.lo, 1000 * (c.str.2 t.which.toNat).rise.hi - day * (c.str.2 t.which.toNat).shift.lo + t.hands * c.hand.hi⟩
  else ⟨1000 * t.word.lo, 1000 * t.word.hi⟩
def downF (n : Int) : Int := n / 1000
def minsF (s : Sp) : Sp := ⟨downF s.lo, - downF (-s.hi)⟩
def Fit (n : Int) : Prop := -1000000000000 ≤ n ∧ n ≤ 1000000000000
def SpFit (s : Sp) : Prop := Fit s.lo ∧ Fit s.hi
def cutF (a b : Sp) : Sp := ⟨max a.lo b.lo, min a.hi b.hi⟩
def wideF : Sp := ⟨-10000000000, 10000000000⟩
end Go.Proofs.YtbhhcnonooiokaaDoor
