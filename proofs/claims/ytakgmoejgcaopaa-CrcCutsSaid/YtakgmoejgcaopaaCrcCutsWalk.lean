/-
  The walk of CrcCuts.
-/
import Derived.Test.YtakgmoejgcaopaaCrcLaws
namespace Go.Proofs.Ytakgmoejgcaopaa
open Go.RowKit Mono Crc
set_option maxHeartbeats 400000 in
theorem crcCuts_walk (v : Value) (l : List UInt8) (v1 : Value) (l1 : List Int) (w : World) (hv : Bs w v l) (hv1 : Is w v1 l1) :
    Calls Try.prog 4 #[v, v1] w fun e w' => e = .returned (.bool true) ∧ Ext w w' := by
  obtain ⟨A, c, rfl, h1, h2, _, _⟩ := hv.open_
  obtain ⟨A1, c1, rfl, g1, g2, _, g4⟩ := hv1.open_
  unfold maxLen at h2 g2
  by_cases hl : l.length ≤ 20000 ∧ l1.length ≤ 50
  · obtain ⟨hl1, hl2⟩ := hl
    go_enter Try.func4, Try.ntmps4
    go_wp2_with fail
    refine (crcSum_any _ [] _ (Bs.nil_ w)).mono ?_
    rintro e w' ⟨rfl, rfl⟩
    go_wp2_with fail
    go_loop [5, 6, 23] (fun s r i => ∃ (k p m : Nat) (A' : Option Addr) (c' : Nat), k ≤ l1.length ∧ i = .int .i64 k ∧ p + m = l.length ∧ r = .slice A' m c' ∧ Bs w (.slice A' m c') (l.drop p) ∧ s = .int .u32 ((sum (l.take p)).toNat : Int)) (fun _ _ i => l1.length - (intOf i).toNat)
    case atStart => exact ⟨0, 0, _, _, _, Nat.zero_le _, rfl, Nat.zero_add _, rfl, hv, by simp⟩
    case round =>
      obtain ⟨k, p, m, A', c', hk, rfl, hp, rfl, hr, rfl⟩ := hrel
      obtain ⟨_, _, hx, r1, r2, _, _⟩ := hr.open_
      have hc' : m ≤ c' := by injection hx; rw [List.length_drop] at r1; omega
      have hcm : c' ≤ 9223372036854775807 := by injection hx; unfold maxLen at r2; omega
      have hml : m ≤ l.length := by omega
      have HP := Lib.hid hp
      clear hx hp r1 r2
      by_cases hlt : k < l1.length
      · obtain ⟨b, off, rfl, hb, hc⟩ := g4 (by omega)
        obtain ⟨hck, hin⟩ := hc k l1[k] (List.getElem?_eq_getElem hlt)
        clear hc g4
        generalize l1[k] = y at *
        obtain ⟨hin1, hin2⟩ := hin
        obtain ⟨q, hq, hqe⟩ := place_int y m (by omega)
        go_wp2_with fail
        refine (crcMore_any _ _ _ _ (hr.upto hq)).mono ?_
        rintro e w' ⟨rfl, rfl⟩
        rw [more_sum, ← List.take_add]
        go_wp2
        go_round
        case rel => exact ⟨k + 1, p + q, m - q, _, _, by omega, by go_num, by have := HP.out; omega, rfl, by have := hr.from_ hq; rwa [List.drop_drop] at this, rfl⟩
        case measure => simp [intOf]; omega
      · go_wp2_with fail
        refine (crcMore_any _ _ _ _ hr).mono ?_
        rintro e w' ⟨rfl, rfl⟩
        rw [more_sum, List.take_append_drop]
        go_wp2_with fail
        refine (crcSum_any _ _ _ hv).mono ?_
        rintro e w' ⟨rfl, rfl⟩
        go_wp2_with fail
        refine (lives_any w).mono ?_
        rintro e w' ⟨rfl, he⟩
        go_wp2_with fail
        go_ret
        exact ⟨rfl, he⟩
  · have hl' : 20000 < l.length ∨ l.length ≤ 20000 ∧ 50 < l1.length := by omega
    clear hl
    rcases hl' with hl | ⟨hl, hl2⟩
    all_goals
      go_enter Try.func4, Try.ntmps4
      go_wp2_with fail
      refine (lives_any w).mono ?_
      rintro e w' ⟨rfl, he⟩
      go_wp2_with fail
      go_ret
      exact ⟨rfl, he⟩
end Go.Proofs.Ytakgmoejgcaopaa
