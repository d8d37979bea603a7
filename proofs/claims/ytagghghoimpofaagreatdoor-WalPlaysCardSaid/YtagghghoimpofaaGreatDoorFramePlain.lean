/-
 Layer 3 in plain Lean: frames.
-/
import Derived.Test.YtagghghoimpofaaGreatDoorCrcWalks3
import Derived.Test.YtagghghoimpofaaGreatDoorNumBack
import Derived.Test.YtagghghoimpofaaGreatDoorNumWalks
namespace Go.Proofs.YtagghghoimpofaaGreatDoor
open Go.RowKit Mono Num Crc
set_option linter.unusedVariables false

/-- A body's frame. -/
def wrap (l : List UInt8) : List UInt8 := if 1048576 < l.length then [] else fix (181 :: (nput l.length ++ l))
/-- What bytes begin with: the body, how many bytes, which error. -/
def fopen2 (b : List UInt8) (g : Nat × Nat × Nat) : List UInt8 × Nat × Nat :=
 if g.2.2 ≠ 0 then ([], 0, g.2.2)
 else if 1048576 < g.1 then ([], 0, 3)
 else if b.length < 1 + g.2.1 + g.1 + 4 then ([], 0, 10)
 else if right (b.take (1 + g.2.1 + g.1 + 4)) = false then ([], 0, 31)
 else ((b.drop (1 + g.2.1)).take g.1, 1 + g.2.1 + g.1 + 4, 0)
def fopen (b : List UInt8) : List UInt8 × Nat × Nat :=
 if b.length = 0 then ([], 0, 10) else if b.getD 0 0 ≠ 181 then ([], 0, 30) else fopen2 b (nget (b.drop 1))
theorem nget_room' (l : List UInt8) (h : (nget l).2.2 = 0) : 0 < (nget l).2.1 ∧ (nget l).2.1 ≤ l.length ∧ (nget l).1 ≤ 4611686018427387903 := by
 have := nget_form_back l (nget l).1 (nget l).2.1 (by rw [← h])
 exact ⟨this.1, this.2.1, this.2.2.1⟩
theorem OwB.mono {w : World} {base base' : Nat} {v : Value} {l : List UInt8} (h : OwB w base v l) (hb : base' ≤ base) : OwB w base' v l := Ow.mono h hb
end Go.Proofs.YtagghghoimpofaaGreatDoor
