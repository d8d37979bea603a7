/-
  The walk of NumAlls.
-/
import Derived.Test.YtgcgolkoooilhaaNumAllWalks
import Derived.Deep.QuietTactic
import Derived.BigQuiet
namespace Go.Proofs.Ytgcgolkoooilhaa
open Go.RowKit Mono Num
set_option linter.unusedVariables false
set_option maxHeartbeats 400000 in
theorem refInts_same (v v' : Value) (l : List Int) (w : World) (hv : Is w v l) (hv' : Is w v' l) :
    Calls Try.prog 18 #[v, v'] w fun e w' => e = .returned (.bool true) ∧ Ext w w' := by
  obtain ⟨A, c, rfl, h1, h2, _, h4⟩ := hv.open_
  obtain ⟨A', c', rfl, h1', h2', _, h4'⟩ := hv'.open_
  unfold maxLen at h2 h2'
  go_enter Try.func18, Try.ntmps18
  go_wp2_with fail
  go_loopw [5] (fun i wr => ∃ k : Nat, k ≤ l.length ∧ i = .int .i64 k ∧ Ext w wr) (fun i _ => l.length - (intOf i).toNat)
  case atStart => exact ⟨0, Nat.zero_le _, rfl, Ext.refl _⟩
  case round =>
    obtain ⟨k, hk, rfl, hbr⟩ := hrel
    by_cases hlt : k < l.length
    · obtain ⟨b, off, rfl, hb, hc⟩ := h4 (by omega)
      obtain ⟨b', off', rfl, hb', hc'⟩ := h4' (by omega)
      have hck := (hc k l[k] (List.getElem?_eq_getElem hlt)).1
      have hck' := (hc' k l[k] (List.getElem?_eq_getElem hlt)).1
      rw [← hbr.cell (p := ⟨b, off + k, none⟩) hb] at hck
      rw [← hbr.cell (p := ⟨b', off' + k, none⟩) hb'] at hck'
      clear hc hc' h4 h4'
      generalize l[k] = y at *
      go_wp2_with fail
      go_quiet (fail)
      go_wp2_with fail
      go_roundw
      case rel => exact ⟨k + 1, by omega, by go_num, below_drewN hbr _⟩
      case measure => simp [intOf]; omega
    · go_wp2_with fail
      go_ret
      exact ⟨rfl, hbr⟩

set_option maxHeartbeats 400000 in
theorem numAlls_walk (v : Value) (l : List UInt8) (w : World) (hv : Bs w v l) :
    Calls Try.prog 6 #[v] w fun e w' => e = .returned (.bool true) ∧ Ext w w' := by
  obtain ⟨A, c, rfl, h1, h2, _, _⟩ := hv.open_
  unfold maxLen at h2
  by_cases hl : 5000 < l.length
  · go_enter Try.func6, Try.ntmps6
    go_wp2_with fail
    refine (size64 w).mono ?_
    rintro e w' ⟨rfl, rfl⟩
    go_wp2_with fail
    go_ret
    exact ⟨rfl, Ext.refl _⟩
  · have hin : ∀ n ∈ (nall l).1, In64 n := fun n hn => by have := nallF_in _ _ n hn; exact ⟨by omega, by omega⟩
    go_enter Try.func6, Try.ntmps6
    go_wp2_with fail
    refine (numAll_any _ l w hv (by omega)).mono ?_
    rintro e w1 ⟨r, rfl, ho1, hb1⟩
    go_wp2_with fail
    refine (refAll_any _ l w1 (hv.ext hb1) (by omega)).mono ?_
    rintro e w2 ⟨r2, rfl, ho2, hb2⟩
    go_wp2_with fail
    refine (refInts_same _ _ (nall l).1 w2 ((ho1.ext hb2).is hin) (ho2.is hin)).mono ?_
    rintro e w3 ⟨rfl, hb3⟩
    go_wp2_with fail
    refine (size64 w3).mono ?_
    rintro e w' ⟨rfl, rfl⟩
    go_wp2_with fail
    go_ret
    exact ⟨rfl, (hb1.trans hb2).trans hb3⟩
end Go.Proofs.Ytgcgolkoooilhaa
