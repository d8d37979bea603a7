/-
 A range over a function whose iterator hands each round what it knows of memory behind the yielded value, and tells, at its end, of the last world. Over any program.
-/
import Derived.RangeFuncNested
import Derived.RangeFuncBound
import Derived.RangeFuncCalls
import Derived.RangeFuncLeaves
import Derived.Test.YtagghghoimpofaaGreatDoorMono
namespace Go.Proofs.YtagghghoimpofaaGreatDoor
namespace Mono
open Go Go.RowKit
set_option linter.unusedVariables false

/-- The iterator's contract: R is what a round may know of what it is handed; S, Sp speak of the world behind the iterator. -/
def SeqW {α : Type} (F : Fence) (n : Nat) (P : Program) (g : Nat) (lb : Array Value) (encs : α → Array Value) (Kp : World → World → Prop) (R : List α → α → World → Prop) (S Sp : List α → World → Prop) (w : World) : Prop :=
 ∀ (l : Nat) (J Jx : List α → World → Prop) (W : World), Below w.heap.size w W → AbidesFrom W.heap.size J → AbidesFrom W.heap.size Jx →
  (∀ pre x W1, J pre W1 → R pre x W1 → YieldAt F (n - 1) P l (encs x) W1 fun e W' =>
   (e = .returned (.bool true) ∧ J (pre ++ [x]) W' ∧ Kp W1 W') ∨ (e = .returned (.bool false) ∧ Jx (pre ++ [x]) W' ∧ Kp W1 W')) →
  J [] W →
  CallsIn F n P g (#[.func (.yield l) #[] #[]] ++ lb) W fun e W' => (∃ v, e = .returned v) ∧ ((∃ xs, S xs W' ∧ J xs W') ∨ (∃ pre, Sp pre W' ∧ Jx pre W'))

/-- How the body of a round may be left. -/
def postW {α : Type} (B : Nat) (Kp : World → World → Prop) (I : List α → World → Prop) (Ix : Code → List α → World → Prop) (xs : List α) (W : World) : Exit → Act → World → Prop
 | .normal, _, W' => KeepsFrom B W W' ∧ Kp W W' ∧ I xs W'
 | .ret, _, W' => KeepsFrom B W W' ∧ Kp W W' ∧ Ix .ret xs W'
 | .exit id, _, W' => KeepsFrom B W W' ∧ Kp W W' ∧ Ix (.exit id) xs W'
 | .goto t, _, W' => KeepsFrom B W W' ∧ Kp W W' ∧ Ix (.goto t) xs W'
 | .panic _, _, _ => False
 | .outgrown, _, _ => False

variable {F : Fence} {n : Nat} {P : Program}

theorem wpIn_rangeW {α : Type} {g : Operand} {ps : Array Tmp} {assign body : Code} {Q : Exit → Act → World → Prop} {a : Act} {w : World}
  (hro : F.round = none) (h1 : 1 ≤ n) {gf : Nat} {lb : Array Value} (hg : a.eval g = .func (.func gf) #[] lb) (hFg : F.fn gf) (eg : ∀ args w, (callFunc gf args).run P w = .ok (.enter gf args) w)
  {encs : α → Array Value} {Kp : World → World → Prop} {R : List α → α → World → Prop} {S Sp : List α → World → Prop} {w0 : World} (hseq : SeqW F (n - 1) P gf lb encs Kp R S Sp w0)
  (hKt : ∀ {A B C : World}, Kp A B → Kp B C → Kp A C) (hKb : ∀ (W : World) (l : Nat) (o o' : Obj), w.heap.size ≤ l → W.heap[l]? = some o → o.isCells = false → o.isWalk = false → Kp W (W.putObj l o'))
  (hb0 : Below w0.heap.size w0 w) (hps : ∀ x, (encs x).size = ps.size) (hS : OwnFrom w.heap.size S) (hSp : OwnFrom w.heap.size Sp)
  (I : List α → World → Prop) (Ix : Code → List α → World → Prop) (hI : OwnFrom w.heap.size I) (hIx : ∀ c, OwnFrom w.heap.size (Ix c)) (h0 : I [] w) (Ax : List α → α → Act → World → Prop) (hAx : ∀ pre x a', OwnFrom w.heap.size (fun (_ : Unit) W => Ax pre x a' W))
  (hassign : ∀ (l : Nat) (pre : List α) (x : α) (W : World) (K : Act → World → Prop), I pre W → R pre x W → (∀ a' W', KeepsFrom w.heap.size W W' → Kp W W' → I pre W' → Ax pre x a' W' → K a' W') →
   assign.wpIn (F.inRound l) (n - 1 - 1) P (Exit.then K (fun _ _ _ => False)) { tmps := (ps.zip (encs x)).foldl (fun t (p, v) => t.setIfInBounds p v) a.tmps, defers := [] } W)
  (hbody : ∀ (l : Nat) (pre : List α) (x : α) (a' : Act) (W : World), w.heap.size ≤ l → I pre W → Ax pre x a' W → body.wpIn (F.inRound l) (n - 1 - 1) P (postW w.heap.size Kp I Ix (pre ++ [x]) W) a' W)
  (hdone : ∀ (D : Nat) (xs : List α) (W : World), w.heap.size ≤ D → S xs W → I xs W → W.heap[D]? = some (.deferred (some [])) → Q .normal { a with defers := { target := .collected D, args := #[] } :: a.defers } W)
  (hstop : ∀ (D : Nat) (c : Code) (pre : List α) (W : World), w.heap.size ≤ D → Sp pre W → Ix c pre W → W.heap[D]? = some (.deferred (some [])) → c.wpIn F n P Q { a with defers := { target := .collected D, args := #[] } :: a.defers } W) :
  (Code.rangeFunc g ps assign body).wpIn F n P Q a w := by
 refine wpIn_rangeFunc fun fn hfn => ?_
 rw [hro]
 -- the record and the block of book-keeping
 let rc : LoopState → Option Code → Obj := fun st pe => .loop { state := st, pending := pe, fn, tmps := a.tmps, params := ps, assign, body, defers := w.heap.size }
 let D := w.heap.size
 let L := w.heap.size + 1
 let W1 := (w.alloc (.deferred (some []))).alloc (rc .ready none)
 have hrec : W1.heap[L]? = some (rc .ready none) := by
  have := World.alloc_heap_new (w.alloc (.deferred (some []))) (rc .ready none)
  rwa [World.size_alloc] at this
 have hdef : W1.heap[D]? = some (.deferred (some [])) := (Below.heap_alloc _ _ _ (by simp [D])).trans (World.alloc_heap_new w _)
 have hsz : W1.heap.size = w.heap.size + 2 := by simp [W1]
 have hI1 : I [] W1 := hI.alloc _ (hI.alloc _ h0)
 have hbw : Below w.heap.size w W1 := ((Below.refl _ w).alloc (Nat.le_refl _) _).alloc (by simp) _
 have hb1 : Below w0.heap.size w0 W1 := hb0.trans (hbw.mono hb0.size)
 refine ⟨L, [{ target := .collected D, args := #[] }], W1, { target := .fn (.func gf) lb, args := #[.func (.yield L) #[] #[]] }, W1, gf, #[.func (.yield L) #[] #[]] ++ lb, W1, run_enterLoop_outer _ _ _ _ _, ?_, ?_, ?_, fun _ => h1, ?_⟩
 ·simp only [resolve, hg]
  simp [go_sem]
 ·intro f' hf'
  simp [Target.leads] at hf'
  subst hf'
  exact hFg
 ·simp [invoke, go_sem, eg]
 -- an iterator's own turn of a walk is no cells and lies beyond w
 have hnw : ∀ {A : World} {row : Option Nat}, (∀ r, row = some r → W1.heap.size ≤ r ∧ ∃ o : Obj, A.heap[r]? = some o ∧ o.isWalk = true) → (∀ r, row = some r → w.heap.size ≤ r ∧ ∃ o : Obj, A.heap[r]? = some o ∧ o.isCells = false) := fun hr r e => by
  obtain ⟨hB, o, ho, hw⟩ := hr r e
  exact ⟨by omega, o, ho, Obj.not_cells_of_walk hw⟩
 let J : List α → World → Prop := fun pre W => I pre W ∧ W.heap[L]? = some (rc .ready none) ∧ W.heap[D]? = some (.deferred (some []))
 let Jx : List α → World → Prop := fun pre W => ∃ c, Ix c pre W ∧ W.heap[L]? = some (rc .done (some c)) ∧ W.heap[D]? = some (.deferred (some []))
 have hJ : AbidesFrom W1.heap.size J := fun s A B row hs hgr hr =>
  ⟨hI s A B row hs.1 hgr (hnw hr), (grownBy_keeps hgr (fun r e => (hr r e).2) hs.2.1 rfl).trans hs.2.1, (grownBy_keeps hgr (fun r e => (hr r e).2) hs.2.2 rfl).trans hs.2.2⟩
 have hJx : AbidesFrom W1.heap.size Jx := fun s A B row hs hgr hr => by
  obtain ⟨c, hc, hl, hk⟩ := hs
  exact ⟨c, hIx c s A B row hc hgr (hnw hr), (grownBy_keeps hgr (fun r e => (hr r e).2) hl rfl).trans hl, (grownBy_keeps hgr (fun r e => (hr r e).2) hk rfl).trans hk⟩
 refine (hseq L J Jx W1 hb1 hJ hJx ?_ ⟨hI1, hrec, hdef⟩).mono ?_
 · -- one round
  rintro pre x Wy ⟨hi, hl, hk⟩ hR
  have hy := run_yield (P := P) (args := encs x) hl (hps x)
  refine ⟨fn, _, assign, body, hy, roundIn_of_wpIn hfn (hassign _ pre x Wy _ hi hR ?_)⟩
  intro a' Wa hkf hkp hia hax
  have hl1 : Wa.heap[L]? = some (rc .ready none) := hkf.same _ _ (by simp [L]) hl rfl
  have hk1 : Wa.heap[D]? = some (.deferred (some [])) := hkf.same _ _ (Nat.le_refl _) hk rfl
  refine ⟨_, run_beginRound hl1 rfl, ?_⟩
  have hlt : L < Wa.heap.size := (Array.getElem?_eq_some_iff.1 hl1).1
  have hDL : D ≠ L := by simp [D, L]
  have hwL : w.heap.size ≤ L := by simp [L]
  have hl2 : (Wa.putObj L (rc .busy none)).heap[L]? = some (rc .busy none) := World.putObj_heap_same hlt
  have hk2 : (Wa.putObj L (rc .busy none)).heap[D]? = some (.deferred (some [])) := (World.putObj_heap_other hDL).trans hk1
  have hkp2 : Kp Wa (Wa.putObj L (rc .busy none)) := hKb _ _ _ _ hwL hl1 rfl rfl
  refine wpIn_mono (hbody _ pre x a' _ hwL (hI.putObj _ hia hwL hl1 rfl) ((hAx pre x a').putObj (s := ()) _ hax hwL hl1 rfl)) ?_
  have fin : ∀ (jump : Option Code) (W3 : World), KeepsFrom w.heap.size (Wa.putObj L (rc .busy none)) W3 → Kp (Wa.putObj L (rc .busy none)) W3 →
    (Instr.endRound L jump).run P W3 = .ok (.bool jump.isNone) (W3.putObj L (rc (if jump.isNone then .ready else .done) jump)) ∧ W3.heap[L]? = some (rc .busy none) ∧
    (W3.putObj L (rc (if jump.isNone then .ready else .done) jump)).heap[L]? = some (rc (if jump.isNone then .ready else .done) jump) ∧
    (W3.putObj L (rc (if jump.isNone then .ready else .done) jump)).heap[D]? = some (.deferred (some [])) ∧ Kp Wy (W3.putObj L (rc (if jump.isNone then .ready else .done) jump)) := fun jump W3 hk3 hkp3 => by
   have hl3 := hk3.same _ _ hwL hl2 rfl
   exact ⟨run_endRound (P := P) jump hl3, hl3, World.putObj_heap_same (Array.getElem?_eq_some_iff.1 hl3).1, (World.putObj_heap_other hDL).trans (hk3.same _ _ (Nat.le_refl _) hk2 rfl),
    hKt hkp (hKt (hKt hkp2 hkp3) (hKb _ _ _ _ hwL hl3 rfl rfl))⟩
  rintro e a3 W3 hp
  cases e with
  | normal =>
   obtain ⟨hk3, hkp3, hi3⟩ := hp
   obtain ⟨hr, hl3, hl4, hk4, hkk⟩ := fin none W3 hk3 hkp3
   exact ⟨_, _, hr, .inl ⟨rfl, ⟨hI.putObj _ hi3 hwL hl3 rfl, hl4, hk4⟩, hkk⟩⟩
  | ret =>
   obtain ⟨hk3, hkp3, hi3⟩ := hp
   obtain ⟨hr, hl3, hl4, hk4, hkk⟩ := fin (some .ret) W3 hk3 hkp3
   exact ⟨_, _, hr, .inr ⟨rfl, ⟨.ret, (hIx _).putObj _ hi3 hwL hl3 rfl, hl4, hk4⟩, hkk⟩⟩
  | exit id =>
   obtain ⟨hk3, hkp3, hi3⟩ := hp
   obtain ⟨hr, hl3, hl4, hk4, hkk⟩ := fin (some (.exit id)) W3 hk3 hkp3
   exact ⟨_, _, hr, .inr ⟨rfl, ⟨.exit id, (hIx _).putObj _ hi3 hwL hl3 rfl, hl4, hk4⟩, hkk⟩⟩
  | goto t =>
   obtain ⟨hk3, hkp3, hi3⟩ := hp
   obtain ⟨hr, hl3, hl4, hk4, hkk⟩ := fin (some (.goto t)) W3 hk3 hkp3
   exact ⟨_, _, hr, .inr ⟨rfl, ⟨.goto t, (hIx _).putObj _ hi3 hwL hl3 rfl, hl4, hk4⟩, hkk⟩⟩
  | panic ch => exact hp.elim
  | outgrown => exact hp.elim
 · -- behind the iterator
  have hwL : w.heap.size ≤ L := by simp [L]
  have hDL : D ≠ L := by simp [D, L]
  rintro e W2 ⟨⟨v, rfl⟩, (⟨xs, hs, hi, hl, hk⟩ | ⟨pre, hsp, c, hi, hl, hk⟩)⟩
  ·exact ⟨none, _, run_endLoop (P := P) hl (by simp), hdone _ xs _ (Nat.le_refl _) (hS.putObj _ hs hwL hl rfl) (hI.putObj _ hi hwL hl rfl) ((World.putObj_heap_other hDL).trans hk)⟩
  ·exact ⟨some c, _, run_endLoop (P := P) hl (by simp), hstop _ c pre _ (Nat.le_refl _) (hSp.putObj _ hsp hwL hl rfl) ((hIx c).putObj _ hi hwL hl rfl) ((World.putObj_heap_other hDL).trans hk)⟩
end Mono
end Go.Proofs.YtagghghoimpofaaGreatDoor
