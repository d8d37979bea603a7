/-
  Layer 15: a plan is laid; a file is read.
-/
import Derived.Test.YtkejoiknnigllaaDkPower
namespace Go.Proofs.Ytkejoiknnigllaa
open Go Go.RowKit Mono
open Go.Maps (Keyed has size)
set_option linter.unusedVariables false
set_option linter.unusedSimpArgs false
set_option maxRecDepth 100000

theorem arm_any {z bd bm pl : Nat} {W : World} {d : Dk} {ms : List FilM} (h : DkM z W bd bm pl d ms) (n keep : Int) (hz : z ≤ W.heap.size) : Calls Try.prog 35 #[.pointer (some ⟨bd, 0, none⟩), .int .i64 n, .int .i64 keep] W fun e w' =>
    ∃ pl', e = .returned (.int .i64 (((dArm d n keep).2 : Nat) : Int)) ∧ DkM z w' bd bm pl' (dArm d n keep).1 ms ∧ Kb (fun k => k = bd) W w' ∧ (pl' = pl ∧ (dArm d n keep).1 = d ∨ W.heap.size ≤ pl') := by
  have HF := Lib.hid (fault_any h)
  have HH := Lib.hid h
  unfold faultN at HF
  unfold dArm
  cases hon : d.on
  · rw [hon] at HF
    go_enter Try.func35, Try.ntmps35
    go_wp2_with fail
    refine HF.out.mono ?_
    rintro e w1 ⟨rfl, rfl⟩
    go_wp2_with fail
    go_ret
    first | exact ⟨pl, rfl, HH.out, Kb.refl _ _, by simp⟩ | exact ⟨rfl, pl, HH.out, Kb.refl _ _, by simp⟩
  · rw [hon] at HF
    by_cases hn : n < 0
    · simp only [hn, if_true, if_false, Bool.true_eq_false]
      go_enter Try.func35, Try.ntmps35
      go_wp2_with fail
      refine HF.out.mono ?_
      rintro e w1 ⟨rfl, rfl⟩
      go_wp2_with fail
      go_ret
      first | exact ⟨pl, rfl, HH.out, Kb.refl _ _, by simp⟩ | exact ⟨rfl, pl, HH.out, Kb.refl _ _, by simp⟩
    · simp only [hn, if_false, Bool.true_eq_false]
      have hx := ext_alloc W (.cells #[.int .i64 n, .int .i64 keep] 81)
      have h1 := h.ext hx
      have hb := BlkT.new W #[.int .i64 n, .int .i64 keep] 81
      have HP := Lib.hid (h1.put (u' := (d.used : Int)) (d' := { d with plan := some (n.toNat, keep) }) (pl' := W.heap.size) 6 (.pointer (some ⟨W.heap.size, 0, none⟩)) rfl rfl (fun a b hab => by
        injection hab with hab
        injection hab with e1 e2
        subst e1 e2
        rw [Int.toNat_of_nonneg (by omega)]
        exact ⟨hb, hz⟩))
      have HK := Lib.hid ((Kb.of_ext (fp := fun k => k = bd) hx).trans (Kb.set (fun k => k = bd) _ bd 6 (.pointer (some ⟨W.heap.size, 0, none⟩)) rfl) (fun _ h => .inl h))
      rw [hon] at HP
      have k6 := h1.str.blk.cell (i := 6) rfl
      have t6 := h1.str.blk.thaw 6
      clear h1 hx hb
      go_enter Try.func35, Try.ntmps35
      go_wp2_with fail
      refine HF.out.mono ?_
      rintro e w1 ⟨rfl, rfl⟩
      go_wp2_with fail
      go_ret
      first | exact ⟨_, rfl, HP.out, HK.out, .inr (Nat.le_refl _)⟩ | exact ⟨rfl, _, HP.out, HK.out, .inr (Nat.le_refl _)⟩
end Go.Proofs.Ytkejoiknnigllaa
