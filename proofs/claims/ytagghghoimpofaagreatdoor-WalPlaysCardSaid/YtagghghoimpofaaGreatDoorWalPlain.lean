/-
 Layer 16: the log, in plain Lean.
-/
import Derived.Test.YtagghghoimpofaaGreatDoorDkPlain
import Derived.Test.YtagghghoimpofaaGreatDoorFrameRows
namespace Go.Proofs.YtagghghoimpofaaGreatDoor
open Go Go.RowKit Num
set_option linter.unusedVariables false
set_option linter.unusedSimpArgs false

/-! ### Names -/
/-- So many digits of a number. -/
def wpad : Nat → Nat → List UInt8
 | 0, _ => []
 | k + 1, n => wpad k (n / 10) ++ [UInt8.ofNat (48 + n % 10)]
theorem wpad_len : ∀ k n, (wpad k n).length = k
 | 0, _ => rfl
 | k + 1, n => by rw [wpad, List.length_append, wpad_len k]; rfl
def wdigs : List UInt8 → Nat → Option Nat
 | [], n => some n
 | b :: r, n => if b.toNat < 48 ∨ 57 < b.toNat then none else wdigs r (10 * n + (b.toNat - 48))
/-- A segment's name. -/
def wname (n : Int) : List UInt8 := if n < 1 ∨ 999999999999 < n then [] else 119 :: wpad 12 n.toNat
/-- The number of a segment's name. -/
def wnum (l : List UInt8) : Nat :=
 if l.length ≠ 13 then 0 else if (l.getD 0 0).toNat ≠ 119 then 0 else (wdigs (l.drop 1) 0).getD 0
theorem wname_len (n : Int) : (wname n).length ≤ 13 := by
 unfold wname
 split
 ·exact Nat.zero_le _
 ·rw [List.length_cons, wpad_len]
  exact Nat.le_refl _
theorem dig_toNat (d : Nat) (h : d < 10) : (UInt8.ofNat (48 + d)).toNat = 48 + d := by
 rw [UInt8.toNat_ofNat']
 exact Nat.mod_eq_of_lt (by omega)
theorem wname_ok {n : Nat} (h1 : 1 ≤ n) (h2 : n ≤ 999999999999) : wname (n : Int) = 119 :: wpad 12 n := by unfold wname; rw [if_neg (by omega), Int.toNat_natCast]
theorem wname_bad {n : Int} (h : n < 1 ∨ 999999999999 < n) : wname n = [] := by unfold wname; rw [if_pos h]
theorem wdigs_lt : ∀ (l : List UInt8) (n m k : Nat), n < 10 ^ k → wdigs l n = some m → m < 10 ^ (k + l.length)
 | [], n, m, k, h, e => by
  rw [wdigs] at e
  injection e with e
  subst e
  exact h
 | b :: r, n, m, k, h, e => by
  rw [wdigs] at e
  split at e
  ·cases e
  ·have := wdigs_lt r _ m (k + 1) (by rw [Nat.pow_succ]; omega) e
   rw [List.length_cons, show k + (r.length + 1) = k + 1 + r.length by omega]
   exact this
theorem wnum_lt (l : List UInt8) : wnum l ≤ 999999999999 := by
 unfold wnum
 split
 ·exact Nat.zero_le _
 ·rename_i h
  split
  ·exact Nat.zero_le _
  ·cases hq : wdigs (l.drop 1) 0 with
   | none => exact Nat.zero_le _
   | some n =>
    have := wdigs_lt _ 0 n 0 (by decide) hq
    rw [List.length_drop] at this
    have h13 : l.length = 13 := by omega
    rw [h13] at this
    show n ≤ _
    omega

/-! ### The log -/
structure WSeg where
 frm : Nat
 count : Nat
 bytes : Nat
structure Lg where
 segs : List WSeg
 size : Nat
 sure : Nat
 fails : Nat
def Lg.last (l : Lg) : WSeg := l.segs.getLastD ⟨1, 0, 0⟩
def Lg.next (l : Lg) : Nat := l.last.frm + l.last.count
def Lg.first (l : Lg) : Nat := (l.segs.headD ⟨1, 0, 0⟩).frm
def didE (e : Nat) : Nat := if e = 3 then 151 else e
def wFault (d : Dk) (l : Lg) : Nat := if d.on = false then 150 else if d.fails ≠ l.fails then 150 else 0
/-- What an act leaves: the disk, the log, the error. -/
abbrev Wx := (Dk × Lg) × Nat
def wSync1 (d : Dk) (l : Lg) : Wx :=
 if didE (dSync d (wname l.last.frm)).2 ≠ 0 then (((dSync d (wname l.last.frm)).1, l), didE (dSync d (wname l.last.frm)).2) else (((dSync d (wname l.last.frm)).1, { l with sure := l.next - 1 }), 0)
def wSync (d : Dk) (l : Lg) : Wx := if wFault d l ≠ 0 then ((d, l), wFault d l) else wSync1 d l
def wRoll1 (d : Dk) (l : Lg) : Wx :=
 if didE (dMake d (wname l.next)).2 ≠ 0 then (((dMake d (wname l.next)).1, l), didE (dMake d (wname l.next)).2) else (((dMake d (wname l.next)).1, { l with segs := l.segs ++ [⟨l.next, 0, 0⟩] }), 0)
def wRoll (d : Dk) (l : Lg) : Wx := if (wSync d l).2 ≠ 0 then wSync d l else wRoll1 (wSync d l).1.1 (wSync d l).1.2
def Lg.up (l : Lg) (n : Nat) : Lg := { l with segs := l.segs.dropLast ++ [⟨l.last.frm, l.last.count + 1, l.last.bytes + n⟩] }
/-- With the number of the record. -/
abbrev Wn := (Dk × Lg) × Nat × Nat
def wPut (d : Dk) (l : Lg) (f : List UInt8) : Wn :=
 if didE (dAppend d (wname l.last.frm) f).2 ≠ 0 then (((dAppend d (wname l.last.frm) f).1, l), 0, didE (dAppend d (wname l.last.frm) f).2) else (((dAppend d (wname l.last.frm) f).1, l.up f.length), (l.up f.length).next - 1, 0)
def wAppend (d : Dk) (l : Lg) (rec : List UInt8) : Wn :=
 if wFault d l ≠ 0 then ((d, l), 0, wFault d l)
 else if 262144 < rec.length then ((d, l), 0, 3)
 else if 999999999999 ≤ l.next then ((d, l), 0, 151)
 else if 0 < l.last.count ∧ l.size < l.last.bytes + (wrap rec).length then
  (if (wRoll d l).2 ≠ 0 then ((wRoll d l).1, 0, (wRoll d l).2) else wPut (wRoll d l).1.1 (wRoll d l).1.2 (wrap rec))
 else wPut d l (wrap rec)
def wRetireF : Nat → Dk → Lg → Int → Wx
 | 0, d, l, _ => ((d, l), 0)
 | k + 1, d, l, lsn => match l.segs with
  | s :: t :: r => if (t.frm : Int) ≤ lsn then
    (if didE (dDrop d (wname s.frm)).2 ≠ 0 then (((dDrop d (wname s.frm)).1, l), didE (dDrop d (wname s.frm)).2) else wRetireF k (dDrop d (wname s.frm)).1 { l with segs := t :: r } lsn)
   else ((d, l), 0)
  | _ => ((d, l), 0)
def wRetire (d : Dk) (l : Lg) (lsn : Int) : Wx := if wFault d l ≠ 0 then ((d, l), wFault d l) else wRetireF l.segs.length d l lsn
/-- The numbers of the segments of a disk. -/
def wnums (d : Dk) : List Nat := (d.fs.map fun f => wnum f.name).filter fun n => decide (0 < n)
def wrows (d : Dk) (n : Nat) : List (List UInt8) × Nat × Nat := frows (dRead d (wname n)).1
def wseg (d : Dk) (n : Nat) : WSeg := ⟨n, (wrows d n).1.length, (wrows d n).2.1⟩
/-- The segments behind those that were read: all segments, all records, whether the last one is torn; nothing: it is no log. -/
def wReadA (d : Dk) : List WSeg → List (List UInt8) → List Nat → Option (List WSeg × List (List UInt8) × Bool)
 | ss, a, [] => some (ss, a, false)
 | ss, a, [n] => some (ss ++ [wseg d n], a ++ (wrows d n).1, decide ((wrows d n).2.1 < (dRead d (wname n)).1.length))
 | ss, a, n :: m :: r => if (wrows d n).2.2 ≠ 0 ∨ m ≠ n + (wrows d n).1.length then none else wReadA d (ss ++ [wseg d n]) (a ++ (wrows d n).1) (m :: r)
/-- What Open tells: the disk, the log, the records, the error. -/
structure Wo where
 d : Dk
 l : Option Lg
 r : List (List UInt8)
 e : Nat
def wOpened (d : Dk) (ss : List WSeg) (a : List (List UInt8)) (size fails : Nat) : Wo :=
 ⟨d, some ⟨ss, size, (⟨ss, size, 0, fails⟩ : Lg).next - 1, fails⟩, a, 0⟩
/-- The last segment is cut where it is torn, and synced. -/
def wMend (d : Dk) (s : WSeg) (torn : Bool) : Dk × Nat :=
 if torn = true then (if (dCut d (wname s.frm) s.bytes).2 ≠ 0 then dCut d (wname s.frm) s.bytes else dSync (dCut d (wname s.frm) s.bytes).1 (wname s.frm)) else dSync d (wname s.frm)
def wOpen (d : Dk) (size : Int) : Wo :=
 if d.on = false then ⟨d, none, [], 150⟩ else if size < 1 ∨ 1048576 < size then ⟨d, none, [], 2⟩ else
 match wReadA d [] [] (wnums d) with
 | none => ⟨d, none, [], 160⟩
 | some (ss, a, torn) =>
  if ss = [] then (if (dMake d (wname 1)).2 ≠ 0 then ⟨(dMake d (wname 1)).1, none, [], (dMake d (wname 1)).2⟩ else wOpened (dMake d (wname 1)).1 [⟨1, 0, 0⟩] a size.toNat d.fails)
  else if (wMend d (ss.getLastD ⟨1, 0, 0⟩) torn).2 ≠ 0 then ⟨(wMend d (ss.getLastD ⟨1, 0, 0⟩) torn).1, none, [], (wMend d (ss.getLastD ⟨1, 0, 0⟩) torn).2⟩
  else wOpened (wMend d (ss.getLastD ⟨1, 0, 0⟩) torn).1 ss a size.toNat d.fails

/-! ### What holds of a log that c operations were done to -/
theorem Lg.last_mem {l : Lg} (h : l.segs ≠ []) : l.last ∈ l.segs := by
 unfold Lg.last
 rw [List.getLastD_eq_getLast?, List.getLast?_eq_some_getLast h]
 exact List.getLast_mem h
end Go.Proofs.YtagghghoimpofaaGreatDoor
