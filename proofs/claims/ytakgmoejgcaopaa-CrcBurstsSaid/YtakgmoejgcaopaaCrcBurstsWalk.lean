/-
  The walk of CrcBursts.
-/
import Derived.Test.YtakgmoejgcaopaaCrcLaws
import Derived.Test.YtakgmoejgcaopaaCrcBurst
import Derived.Outline
namespace Go.Proofs.Ytakgmoejgcaopaa
open Go.RowKit Mono Crc
set_option linter.unusedVariables false
set_option maxHeartbeats 1000000 in
theorem crcBursts_walk (v : Value) (l : List UInt8) (y : Int) (t : BitVec 32) (w : World) (hv : Bs w v l) (hy : -9223372036854775808 ≤ y ∧ y ≤ 9223372036854775807) :
    Calls Try.prog 6 #[v, .int .i64 y, .int .u32 (t.toNat : Int)] w fun e w' => e = .returned (.bool true) ∧ Ext w w' := by
  obtain ⟨A, c, rfl, h1, h2, _, _⟩ := hv.open_
  obtain ⟨hy1, hy2⟩ := hy
  unfold maxLen at h2
  have ht32 := t.isLt
  by_cases hl : 20000 < l.length
  · go_enter Try.func6, Try.ntmps6
    go_wp2_with fail
    refine (lives_any w).mono ?_
    rintro e w' ⟨rfl, he⟩
    go_wp2_with fail
    go_ret
    exact ⟨rfl, he⟩
  by_cases ht : t = 0#32
  · subst ht
    have hl' : l.length ≤ 20000 := by omega
    clear hl
    go_enter Try.func6, Try.ntmps6
    go_wp2_with fail
    refine (lives_any w).mono ?_
    rintro e w' ⟨rfl, he⟩
    go_wp2_with fail
    go_ret
    exact ⟨rfl, he⟩
  have htn : ((t.toNat : Int) == 0) = false := by
    rw [beq_eq_false_iff_ne]
    intro h
    apply ht
    apply BitVec.eq_of_toNat_eq
    simp
    omega
  have hl' : l.length ≤ 20000 := by omega
  clear hl
  obtain ⟨q, hq, hqe⟩ := place_int y l.length (by omega)
  have HB := Lib.hid (burst l q t hq ht)
  clear ht
  have hlen : (fix l).length = l.length + 4 := by simp [fix, sumB]
  go_enter Try.func6, Try.ntmps6
  go_wp2_with fail
  refine (crcFix_any _ l w hv (by omega)).mono ?_
  rintro e w1 ⟨r, rfl, hfix, hb1⟩
  have hz1 := hb1.size
  rcases Ow.form hfix with ⟨rfl, hnil⟩ | ⟨g, cap, rfl, hg1, hg2, hcap1, hcap2, _, _⟩
  · exfalso
    have := congrArg List.length hnil
    simp [hlen] at this
  simp only [List.length_map, hlen] at hcap1 hfix ⊢
  unfold maxLen at hcap2
  have HL := Lib.hid hlen
  clear hlen
  have hne : (((l.length : Int) + 4) != (l.length : Int) + 4) = false := by simp
  go_wp2_with fail
  rw [hqe]
  clear hqe
  go_loopw [9, 34] (fun _ i wr => ∃ j : Nat, j ≤ 4 ∧ i = .int .i64 j ∧ OwB wr w.heap.size (.slice (some ⟨g, 0, none⟩) (l.length + 4) cap) (tw (fix l) q t j) ∧ Ext w wr) (fun _ i _ => 4 - (intOf i).toNat)
  case atStart => exact ⟨0, by omega, rfl, hfix, hb1⟩
  case round =>
    obtain ⟨j, hj, rfl, how, hbr⟩ := hrel
    have htl : (tw (fix l) q t j).length = l.length + 4 := by rw [tw_length, HL.out]
    by_cases hlt : j < 4
    · obtain ⟨hc, hf⟩ := how.cell (q + j) (by omega)
      have hset := how.set_ (q + j) ((tw (fix l) q t j).getD (q + j) 0 ^^^ tb t j)
      have he : (tw (fix l) q t j).set (q + j) ((tw (fix l) q t j).getD (q + j) 0 ^^^ tb t j) = tw (fix l) q t (j + 1) := rfl
      rw [he] at hset
      clear he htl
      generalize (tw (fix l) q t j).getD (q + j) 0 = z at *
      have hb8 := z.toNat_lt
      have h24 : 0 ≤ (24 : Int) - 8 * (j : Int) := by omega
      have HX := Lib.hid (tb_int z t j hlt)
      go_wp2_with fail
      rw [HX.out]
      exact ⟨⟨j + 1, by omega, by go_num, hset, Below.setCell hbr hg1 _⟩, by simp [intOf]; omega⟩
    · have hj4 : j = 4 := by omega
      subst hj4
      have hR := crcRight_any _ _ wr how.bs
      rw [HB.out] at hR
      go_wp2_with fail
      refine hR.mono ?_
      rintro e w' ⟨rfl, rfl⟩
      go_wp2_with fail
      refine (lives_any _).mono ?_
      rintro e w' ⟨rfl, he⟩
      go_wp2_with fail
      go_ret
      exact ⟨rfl, hbr.trans he⟩
end Go.Proofs.Ytakgmoejgcaopaa
