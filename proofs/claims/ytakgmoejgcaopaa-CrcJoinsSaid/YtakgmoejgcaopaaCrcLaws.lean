/-
  The walks of the statements of layer 2.
-/
import Derived.Test.YtakgmoejgcaopaaCrcWalks
import Derived.Outline
namespace Go.Proofs.Ytakgmoejgcaopaa
open Go.RowKit Mono Crc

theorem sum_lives : sum [49, 50, 51, 52, 53, 54, 55, 56, 57] = 4236843288#32 := by decide +kernel

set_option maxHeartbeats 400000 in
theorem lives_any (w : World) : Calls Try.prog 8 #[] w fun e w' => e = .returned (.bool true) ∧ Ext w w' := by
  have kc := fun (w : World) (C : Array Value) (n c : Nat) => Lib.run_convert_bytes_const (P := Try.prog) w 22 5 C n c Try.underlying22 Try.underlying5
  go_enter Try.func8, Try.ntmps8
  go_wp2_with fail
  refine (crcSum_any _ [49, 50, 51, 52, 53, 54, 55, 56, 57] _ (Bs.alloc_ w 5 _ rfl rfl (Nat.le_refl _) (by decide))).mono ?_
  rintro e w' ⟨rfl, rfl⟩
  rw [sum_lives]
  clear kc
  go_wp2
  go_ret
  exact ⟨rfl, ext_alloc _ _⟩

set_option maxHeartbeats 400000 in
theorem crcSums_walk (v : Value) (l : List UInt8) (x : BitVec 32) (w : World) (hv : Bs w v l) :
    Calls Try.prog 3 #[v, .int .u32 (x.toNat : Int)] w fun e w' => e = .returned (.bool true) ∧ Ext w w' := by
  obtain ⟨A, c, rfl, h1, h2, _, _⟩ := hv.open_
  unfold maxLen at h2
  by_cases hl : 20000 < l.length
  · go_enter Try.func3, Try.ntmps3
    go_wp2_with fail
    refine (lives_any w).mono ?_
    rintro e w' ⟨rfl, he⟩
    go_wp2_with fail
    go_ret
    exact ⟨rfl, he⟩
  · go_enter Try.func3, Try.ntmps3
    go_wp2_with fail
    refine (crcSum_any _ l _ hv).mono ?_
    rintro e w' ⟨rfl, rfl⟩
    go_wp2_with fail
    refine (refSum_any _ l _ hv).mono ?_
    rintro e w' ⟨rfl, rfl⟩
    go_wp2_with fail
    refine (crcMore_any x _ l _ hv).mono ?_
    rintro e w' ⟨rfl, rfl⟩
    go_wp2_with fail
    refine (refMore_any x _ l _ hv).mono ?_
    rintro e w' ⟨rfl, rfl⟩
    go_wp2_with fail
    refine (lives_any w).mono ?_
    rintro e w' ⟨rfl, he⟩
    go_wp2_with fail
    go_ret
    exact ⟨rfl, he⟩
end Go.Proofs.Ytakgmoejgcaopaa
