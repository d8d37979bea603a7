/-
 Layer 3 in plain Lean: frames one behind the other.
-/
import Derived.Test.YtagghghoimpofaaGreatDoorFramePlain
namespace Go.Proofs.YtagghghoimpofaaGreatDoor
open Go.RowKit Mono Num Crc
set_option linter.unusedVariables false

theorem fopen_room {b : List UInt8} (h : (fopen b).2.2 = 0) : 6 ≤ (fopen b).2.1 ∧ (fopen b).2.1 ≤ b.length := by
 unfold fopen at *
 split at h
 ·simp at h
 ·rename_i h0
  rw [if_neg h0]
  split at h
  ·simp at h
  ·rename_i hm
   rw [if_neg hm]
   have hroom := nget_room' (b.drop 1)
   generalize nget (b.drop 1) = g at *
   obtain ⟨n, k, f⟩ := g
   unfold fopen2 at *
   dsimp only at *
   by_cases hf : f = 0
   ·obtain ⟨hk, _, _⟩ := hroom hf
    rw [if_neg (by simpa using hf)] at h ⊢
    split at h
    ·simp at h
    ·rename_i hn
     rw [if_neg hn]
     split at h
     ·simp at h
     ·rename_i ha
      rw [if_neg ha]
      split at h
      ·simp at h
      ·rename_i hr
       rw [if_neg hr]
       dsimp only
       omega
   ·rw [if_pos hf] at h
    exact absurd h hf

/-- What the iterator yields: body, end, error; from a place on. -/
def feltsF : Nat → Nat → List UInt8 → List (List UInt8 × Nat × Nat)
 | 0, _, _ => []
 | f + 1, at_, l => if l.length = 0 then [] else
   ((fopen l).1, at_ + (fopen l).2.1, (fopen l).2.2) :: (if (fopen l).2.2 = 0 then feltsF f (at_ + (fopen l).2.1) (l.drop (fopen l).2.1) else [])
def felts (at_ : Nat) (l : List UInt8) : List (List UInt8 × Nat × Nat) := feltsF (l.length + 1) at_ l
theorem feltsF_fuel : ∀ (f g at_ : Nat) (l : List UInt8), l.length < f → l.length < g → feltsF f at_ l = feltsF g at_ l
 | 0, _, _, _, h, _ => by omega
 | _ + 1, 0, _, _, _, h => by omega
 | f + 1, g + 1, at_, l, hf, hg => by
  unfold feltsF
  by_cases h0 : l.length = 0
  ·rw [if_pos h0, if_pos h0]
  ·rw [if_neg h0, if_neg h0]
   by_cases he : (fopen l).2.2 = 0
   ·have hr := fopen_room he
    rw [if_pos he, if_pos he, feltsF_fuel f g _ _ (by rw [List.length_drop]; omega) (by rw [List.length_drop]; omega)]
   ·rw [if_neg he, if_neg he]
theorem felts_nil (at_ : Nat) (l : List UInt8) (h : l.length = 0) : felts at_ l = [] := by unfold felts feltsF; rw [if_pos h]
theorem felts_cons (at_ : Nat) (l : List UInt8) (h : l.length ≠ 0) : felts at_ l =
  ((fopen l).1, at_ + (fopen l).2.1, (fopen l).2.2) :: (if (fopen l).2.2 = 0 then felts (at_ + (fopen l).2.1) (l.drop (fopen l).2.1) else []) := by
 unfold felts
 rw [feltsF, if_neg h]
 congr 1
 by_cases he : (fopen l).2.2 = 0
 ·have hr := fopen_room he
  rw [if_pos he, if_pos he]
  exact feltsF_fuel _ _ _ _ (by rw [List.length_drop]; omega) (by rw [List.length_drop]; omega)
 ·rw [if_neg he, if_neg he]
/-- Two lists, element by element. -/
def All2 {α β : Type} (R : α → β → Prop) : List α → List β → Prop
 | [], [] => True
 | a :: l, b :: m => R a b ∧ All2 R l m
 | _, _ => False
theorem All2.of_map {α β γ : Type} {R : α → β → Prop} (f : γ → α) (g : γ → β) : ∀ (l : List γ), (∀ y ∈ l, R (f y) (g y)) → All2 R (l.map f) (l.map g)
 | [], _ => trivial
 | y :: l, h => ⟨h y (by simp), All2.of_map f g l fun z hz => h z (by simp [hz])⟩
theorem All2.length {α β : Type} {R : α → β → Prop} : ∀ {a : List α} {b : List β}, All2 R a b → a.length = b.length
 | [], [], _ => rfl
 | _ :: _, _ :: _, h => by simp [All2.length h.2]
 | [], _ :: _, h => h.elim
 | _ :: _, [], h => h.elim
theorem All2.get {α β : Type} {R : α → β → Prop} : ∀ {a : List α} {b : List β}, All2 R a b → ∀ (i : Nat) x y, a[i]? = some x → b[i]? = some y → R x y
 | x :: _, y :: _, h, 0, _, _, hx, hy => by simp at hx hy; rw [← hx, ← hy]; exact h.1
 | _ :: _, _ :: _, h, i + 1, _, _, hx, hy => All2.get h.2 i _ _ (by simpa using hx) (by simpa using hy)
 | [], [], _, _, _, _, hx, _ => by simp at hx
 | [], _ :: _, h, _, _, _, _, _ => h.elim
 | _ :: _, [], h, _, _, _, _, _ => h.elim
theorem All2.mono {α β : Type} {R S : α → β → Prop} (hm : ∀ x y, R x y → S x y) : ∀ {a : List α} {b : List β}, All2 R a b → All2 S a b
 | [], [], _ => trivial
 | _ :: _, _ :: _, h => ⟨hm _ _ h.1, All2.mono hm h.2⟩
 | [], _ :: _, h => h.elim
 | _ :: _, [], h => h.elim
theorem All2.append {α β : Type} {R : α → β → Prop} : ∀ {a : List α} {b : List β} {x : List α} {y : List β}, All2 R a b → All2 R x y → All2 R (a ++ x) (b ++ y)
 | [], [], _, _, _, h => h
 | _ :: _, _ :: _, _, _, h, k => ⟨h.1, All2.append h.2 k⟩
 | [], _ :: _, _, _, h, _ => h.elim
 | _ :: _, [], _, _, h, _ => h.elim
/-- A slice of byte slices reads as a list of lists. -/
def Bss (w : World) (v : Value) (ls : List (List UInt8)) : Prop := ∃ vs, Sl w v vs ∧ All2 (Bs w) vs ls
theorem Bss.ext {w w' : World} {v : Value} {ls : List (List UInt8)} (h : Bss w v ls) (he : Ext w w') : Bss w' v ls := by
 obtain ⟨vs, h1, h2⟩ := h
 exact ⟨vs, h1.ext he, h2.mono fun _ _ hb => hb.ext he⟩
/-- The frames, the end, the error. -/
def frows (l : List UInt8) : List (List UInt8) × Nat × Nat :=
 (((felts 0 l).filter (fun x => x.2.2 == 0)).map (·.1), (match (felts 0 l).getLast? with | some x => x.2.1 | none => 0), (match (felts 0 l).getLast? with | some x => x.2.2 | none => 0))
end Go.Proofs.YtagghghoimpofaaGreatDoor
