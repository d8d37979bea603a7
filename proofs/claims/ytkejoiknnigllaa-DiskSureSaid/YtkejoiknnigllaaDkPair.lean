/-
  Layer 15: both disks, side by side.
-/
import Derived.Test.YtkejoiknnigllaaRkMake
import Derived.Test.YtkejoiknnigllaaMonoTok
namespace Go.Proofs.Ytkejoiknnigllaa
open Go Go.RowKit Mono
set_option linter.unusedVariables false
set_option linter.unusedSimpArgs false
set_option maxRecDepth 100000

/-- The program's disk d and the document's r, at or behind z; their blocks lie apart, and within F. -/
def Pair (z bd br : Nat) (F : Nat → Prop) (d r : Dk) (W : World) : Prop :=
  ∃ bm pl ms s, DkM z W bd bm pl d ms ∧ RkM z W br s r ∧ (∀ k, dall bd bm pl d ms k → ¬ rall br s k) ∧ (∀ k, dall bd bm pl d ms k → F k) ∧ ∀ k, rall br s k → F k
theorem DkU.lowall {u : Int} {z bd bm pl : Nat} {W : World} {d : Dk} {ms : List FilM} (h : DkU u z W bd bm pl d ms) : ∀ k, dall bd bm pl d ms k → z ≤ k := by
  rintro k (hk | ⟨m, hm, hj⟩)
  · exact h.low k hk
  · exact ((h.bytes m hm).typed k hj).1
theorem DkU.kball {u : Int} {z bd bm pl : Nat} {W W' : World} {d : Dk} {ms : List FilM} {fp : Nat → Prop} (h : DkU u z W bd bm pl d ms) (k : Kb fp W W') (hn : ∀ j, dall bd bm pl d ms j → ¬ fp j) : DkU u z W' bd bm pl d ms :=
  h.kb k (fun j hj => hn j (.inl hj)) (fun m hm j hj => hn j (.inr ⟨m, hm, hj⟩))
theorem Pair.mono {z bd br : Nat} {F F' : Nat → Prop} {d r : Dk} {W : World} (h : Pair z bd br F d r W) (hF : ∀ k, F k → k < W.heap.size → z ≤ k → F' k) : Pair z bd br F' d r W := by
  obtain ⟨bm, pl, ms, s, h1, h2, h3, h4, h5⟩ := h
  exact ⟨bm, pl, ms, s, h1, h2, h3, fun k hk => hF k (h4 k hk) (h1.lt k hk) (h1.lowall k hk), fun k hk => hF k (h5 k hk) (h2.lt k hk) (h2.low k hk)⟩
theorem Pair.kb {z bd br : Nat} {F fp : Nat → Prop} {d r : Dk} {W W' : World} (h : Pair z bd br F d r W) (k : Kb fp W W') (hn : ∀ j, F j → ¬ fp j) : Pair z bd br F d r W' := by
  obtain ⟨bm, pl, ms, s, h1, h2, h3, h4, h5⟩ := h
  exact ⟨bm, pl, ms, s, h1.kball k (fun j hj => hn j (h4 j hj)), h2.kb k (fun j hj => hn j (h5 j hj)), h3, h4, h5⟩
theorem Pair.ext {z bd br : Nat} {F : Nat → Prop} {d r : Dk} {W W' : World} (h : Pair z bd br F d r W) (he : Ext W W') : Pair z bd br F d r W' := h.kb (Kb.of_ext (fp := fun _ => False) he) (fun _ _ h => h)
/-- A call of the program's disk. -/
theorem Pair.d {z bd br : Nat} {F : Nat → Prop} {d r : Dk} {W : World} {f : FuncId} {args : Array Value} {x : Dk × Nat} (h : Pair z bd br F d r W) (hF : ∀ k, W.heap.size ≤ k → F k)
    (hc : ∀ bm pl ms, DkM z W bd bm pl d ms → Calls Try.prog f args W (DkPost z W bd bm pl d ms x)) :
    Calls Try.prog f args W fun e w' => e = .returned (.int .i64 (x.2 : Int)) ∧ Kb F W w' ∧ Pair z bd br F x.1 r w' := by
  obtain ⟨bm, pl, ms, s, h1, h2, h3, h4, h5⟩ := h
  refine (hc bm pl ms h1).mono ?_
  rintro e w' ⟨pl', ms', rfl, hs⟩
  refine ⟨rfl, hs.kb.mono h4, bm, pl', ms', s, hs.dk, h2.kb hs.kb (fun j hj hd => h3 j hd hj), fun k hk hr => ?_, fun k hk => ?_, h5⟩
  · rcases hs.fp k hk with h6 | h6
    · exact h3 k h6 hr
    · have := h2.lt k hr
      omega
  · rcases hs.fp k hk with h6 | h6
    · exact h4 k h6
    · exact hF k h6
/-- A call of the document's disk. -/
theorem Pair.r {z bd br : Nat} {F : Nat → Prop} {d r : Dk} {W : World} {f : FuncId} {args : Array Value} {x : Dk × Nat} (h : Pair z bd br F d r W) (hF : ∀ k, W.heap.size ≤ k → F k)
    (hc : ∀ s, RkM z W br s r → (∀ k, rall br s k → F k) → Calls Try.prog f args W (RkPost z W br s r x)) :
    Calls Try.prog f args W fun e w' => e = .returned (.int .i64 (x.2 : Int)) ∧ Kb F W w' ∧ Pair z bd br F d x.1 w' := by
  obtain ⟨bm, pl, ms, s, h1, h2, h3, h4, h5⟩ := h
  refine (hc s h2 h5).mono ?_
  rintro e w' ⟨s', rfl, hs⟩
  refine ⟨rfl, hs.kb.mono h5, bm, pl, ms, s', h1.kball hs.kb h3, hs.rk, fun k hk hr => ?_, h4, fun k hk => ?_⟩
  · rcases hs.fp k hr with h6 | h6
    · exact h3 k hk h6
    · have := h1.lt k hk
      omega
  · rcases hs.fp k hk with h6 | h6
    · exact h5 k h6
    · exact hF k h6
/-- The power comes back. -/
theorem Pair.dpower {z bd br : Nat} {F : Nat → Prop} {d r : Dk} {W : World} (h : Pair z bd br F d r W) :
    Calls Try.prog 13 #[.pointer (some ⟨bd, 0, none⟩)] W fun e w' => e = .returned (.int .i64 0) ∧ Kb F W w' ∧ Pair z bd br F (dPower d) r w' := by
  obtain ⟨bm, pl, ms, s, h1, h2, h3, h4, h5⟩ := h
  refine (power_any h1).mono ?_
  rintro e w' ⟨rfl, hd, hk⟩
  have hbd : dall bd bm pl d ms bd := .inl (.inl rfl)
  have hk' : Kb (dall bd bm pl d ms) W w' := hk.mono fun b hb => by rw [hb]; exact hbd
  exact ⟨rfl, hk'.mono h4, bm, pl, ms, s, hd, h2.kb hk' (fun j hj hd => h3 j hd hj), h3, h4, h5⟩
theorem Pair.rpower {z bd br : Nat} {F : Nat → Prop} {d r : Dk} {W : World} (h : Pair z bd br F d r W) (hF : ∀ k, W.heap.size ≤ k → F k) :
    Calls Try.prog 14 #[.pointer (some ⟨br, 0, none⟩)] W fun e w' => e = .returned (.tuple #[]) ∧ Kb F W w' ∧ Pair z bd br F d (dPower r) w' := by
  obtain ⟨bm, pl, ms, s, h1, h2, h3, h4, h5⟩ := h
  refine (rpower_any h2).mono ?_
  rintro e w' ⟨rfl, s', hs⟩
  refine ⟨rfl, hs.kb.mono h5, bm, pl, ms, s', h1.kball hs.kb h3, hs.rk, fun k hk hr => ?_, h4, fun k hk => ?_⟩
  · rcases hs.fp k hr with h6 | h6
    · exact h3 k hk h6
    · have := h1.lt k hk
      omega
  · rcases hs.fp k hk with h6 | h6
    · exact h5 k h6
    · exact hF k h6
theorem Pair.darm {z bd br : Nat} {F : Nat → Prop} {d r : Dk} {W : World} (h : Pair z bd br F d r W) (hz : z ≤ W.heap.size) (hF : ∀ k, W.heap.size ≤ k → F k) (n keep : Int) :
    Calls Try.prog 35 #[.pointer (some ⟨bd, 0, none⟩), .int .i64 n, .int .i64 keep] W fun e w' => e = .returned (.int .i64 ((dArm d n keep).2 : Int)) ∧ Kb F W w' ∧ Pair z bd br F (dArm d n keep).1 r w' := by
  obtain ⟨bm, pl, ms, s, h1, h2, h3, h4, h5⟩ := h
  refine (arm_any h1 n keep hz).mono ?_
  rintro e w' ⟨pl', rfl, hd, hk, hpl⟩
  have hbd : dall bd bm pl d ms bd := .inl (.inl rfl)
  have hk' : Kb (dall bd bm pl d ms) W w' := hk.mono fun b hb => by rw [hb]; exact hbd
  have hfs : (dArm d n keep).1.fs = d.fs := by
    unfold dArm
    split
    · rfl
    · split <;> rfl
  have hsub : ∀ k, dall bd bm pl' (dArm d n keep).1 ms k → dall bd bm pl d ms k ∨ W.heap.size ≤ k := by
    rintro k ((rfl | rfl | ⟨hp, rfl⟩ | ⟨m, hm, rfl⟩) | ⟨m, hm, hj⟩)
    · exact .inl hbd
    · exact .inl (.inl (.inr (.inl rfl)))
    · rcases hpl with ⟨rfl, he⟩ | hpl
      · rw [he] at hp
        exact .inl (.inl (.inr (.inr (.inl ⟨hp, rfl⟩))))
      · exact .inr hpl
    · exact .inl (.inl (.inr (.inr (.inr ⟨m, hm, rfl⟩))))
    · exact .inl (.inr ⟨m, hm, hj⟩)
  refine ⟨rfl, hk'.mono h4, bm, pl', ms, s, hd, h2.kb hk' (fun j hj hd => h3 j hd hj), fun k hk hr => ?_, fun k hk => ?_, h5⟩
  · rcases hsub k hk with h6 | h6
    · exact h3 k h6 hr
    · have := h2.lt k hr
      omega
  · rcases hsub k hk with h6 | h6
    · exact h4 k h6
    · exact hF k h6
end Go.Proofs.Ytkejoiknnigllaa
