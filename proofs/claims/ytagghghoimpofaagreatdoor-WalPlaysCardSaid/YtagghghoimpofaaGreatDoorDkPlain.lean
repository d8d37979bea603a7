/-
 Layer 15: the disk, in plain Lean.
-/
import Derived.Test.YtagghghoimpofaaGreatDoorMem
namespace Go.Proofs.YtagghghoimpofaaGreatDoor
open Go Go.RowKit
set_option linter.unusedVariables false

/-- A file: its name, its bytes, how many of them are sure. -/
structure Fil where
 name : List UInt8
 b : List UInt8
 sure : Nat
/-- A disk; the files stand by their names. -/
structure Dk where
 room : Nat
 fs : List Fil
 on : Bool
 ops : Nat
 fails : Nat
 plan : Option (Nat × Int)
def Dk.fresh (room : Nat) : Dk := ⟨room, [], true, 0, 0, none⟩
def usedF (fs : List Fil) : Nat := (fs.map fun f => f.b.length).sum
def Dk.used (d : Dk) : Nat := usedF d.fs
def nameC (c : UInt8) : Bool := (decide (97 ≤ c.toNat) && decide (c.toNat ≤ 122)) || (decide (48 ≤ c.toNat) && decide (c.toNat ≤ 57))
/-- May a name be? -/
def dname (s : List UInt8) : Bool := s.all nameC && decide (1 ≤ s.length) && decide (s.length ≤ 24)
/-- What a failure leaves of a file. -/
def keepN (keep : Int) (f : Fil) : Nat := f.sure + (max 0 (min keep ((f.b.length : Int) - (f.sure : Int)))).toNat
def Fil.lose (keep : Int) (f : Fil) : Fil := ⟨f.name, f.b.take (keepN keep f), keepN keep f⟩
def Dk.lose (d : Dk) (keep : Int) : Dk := { d with fs := d.fs.map (Fil.lose keep), on := false, plan := none, fails := d.fails + 1 }
/-- An operation that is not refused: the disk behind it, and its error. -/
def Dk.count (d : Dk) (act : Dk → Dk) : Dk × Nat := match d.plan with
 | some (0, k) => (d.lose k, 150)
 | some (n + 1, k) => (act { d with plan := some (n, k), ops := d.ops + 1 }, 0)
 | none => (act { d with ops := d.ops + 1 }, 0)
def findF (name : List UInt8) (fs : List Fil) : Option Fil := fs.find? fun f => f.name == name
def insF (name : List UInt8) : List Fil → List Fil
 | [] => [⟨name, [], 0⟩]
 | f :: r => if Op.bytesLess name f.name = true then ⟨name, [], 0⟩ :: f :: r else f :: insF name r
def updF (name : List UInt8) (g : Fil → Fil) (fs : List Fil) : List Fil := fs.map fun f => if f.name == name then g f else f
def Dk.upd (d : Dk) (name : List UInt8) (g : Fil → Fil) : Dk := { d with fs := updF name g d.fs }
def dMake (d : Dk) (name : List UInt8) : Dk × Nat :=
 if d.on = false then (d, 150) else if dname name = false then (d, 2) else if (findF name d.fs).isSome = true then (d, 153) else if 64 ≤ d.fs.length then (d, 151)
 else d.count fun d => { d with fs := insF name d.fs }
def dAppend (d : Dk) (name b : List UInt8) : Dk × Nat :=
 if d.on = false then (d, 150) else match findF name d.fs with
  | none => (d, 152)
  | some f => if 1048576 < f.b.length + b.length then (d, 3) else if d.room < d.used + b.length then (d, 151) else (d.upd name fun f => { f with b := f.b ++ b }).count id
def dSync (d : Dk) (name : List UInt8) : Dk × Nat :=
 if d.on = false then (d, 150) else match findF name d.fs with
  | none => (d, 152)
  | some _ => d.count fun d => d.upd name fun f => { f with sure := f.b.length }
def dCut (d : Dk) (name : List UInt8) (n : Int) : Dk × Nat :=
 if d.on = false then (d, 150) else match findF name d.fs with
  | none => (d, 152)
  | some f => if n < 0 ∨ (f.b.length : Int) < n then (d, 2) else d.count fun d => d.upd name fun f => ⟨f.name, f.b.take n.toNat, min f.sure n.toNat⟩
def dDrop (d : Dk) (name : List UInt8) : Dk × Nat :=
 if d.on = false then (d, 150) else match findF name d.fs with
  | none => (d, 152)
  | some _ => d.count fun d => { d with fs := d.fs.filter fun f => !(f.name == name) }
def dRead (d : Dk) (name : List UInt8) : List UInt8 × Nat :=
 if d.on = false then ([], 150) else match findF name d.fs with
  | none => ([], 152)
  | some f => (f.b, 0)
def dArm (d : Dk) (n : Int) (keep : Int) : Dk × Nat := if d.on = false then (d, 150) else if n < 0 then (d, 2) else ({ d with plan := some (n.toNat, keep) }, 0)
def dFail (d : Dk) (keep : Int) : Dk × Nat := if d.on = false then (d, 150) else (d.lose keep, 0)
def dPower (d : Dk) : Dk := { d with on := true }

/-! ### What holds of every disk -/
structure Dk.Ok (d : Dk) : Prop where
 room : d.room ≤ 1073741824
 sorted : d.fs.Pairwise fun a b => Op.bytesLess a.name b.name = true
 sure : ∀ f ∈ d.fs, f.sure ≤ f.b.length
 len : ∀ f ∈ d.fs, f.b.length ≤ 1048576
 few : d.fs.length ≤ 64
 used : d.used ≤ d.room
 names : ∀ f ∈ d.fs, dname f.name = true
theorem keepN_le (keep : Int) (f : Fil) (h : f.sure ≤ f.b.length) : keepN keep f ≤ f.b.length := by unfold keepN; omega
theorem used_map_le {fs : List Fil} {g : Fil → Fil} (h : ∀ f ∈ fs, (g f).b.length ≤ f.b.length) : usedF (fs.map g) ≤ usedF fs := by
 induction fs with
 | nil => exact Nat.le_refl _
 | cons a r ih =>
  have h1 := h a List.mem_cons_self
  have h2 := ih fun f hf => h f (List.mem_cons_of_mem _ hf)
  unfold usedF at *
  simp only [List.map_cons, List.sum_cons] at *
  omega
theorem Dk.Ok.lose {d : Dk} (h : d.Ok) (keep : Int) : (d.lose keep).Ok := by
 refine ⟨h.room, ?_, fun f hf => ?_, fun f hf => ?_, by simpa [Dk.lose] using h.few, ?_, fun f hf => ?_⟩
 ·exact List.pairwise_map.2 (h.sorted.imp fun {a b} hab => hab)
 ·obtain ⟨g, hg, rfl⟩ := List.mem_map.1 hf
  have := keepN_le keep g (h.sure g hg)
  simp only [Fil.lose, List.length_take]
  omega
 ·obtain ⟨g, hg, rfl⟩ := List.mem_map.1 hf
  have := h.len g hg
  simp only [Fil.lose, List.length_take]
  omega
 ·refine Nat.le_trans ?_ h.used
  exact used_map_le fun f hf => by simp only [Fil.lose, List.length_take]; omega
 ·obtain ⟨g, hg, rfl⟩ := List.mem_map.1 hf
  exact h.names g hg
end Go.Proofs.YtagghghoimpofaaGreatDoor
