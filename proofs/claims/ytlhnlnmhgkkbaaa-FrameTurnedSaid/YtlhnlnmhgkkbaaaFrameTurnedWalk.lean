/-
  The walk of FrameTurned.
-/
import Derived.Test.YtlhnlnmhgkkbaaaFrameLives
import Derived.Test.YtlhnlnmhgkkbaaaFrameBack
namespace Go.Proofs.Ytlhnlnmhgkkbaaa
open Go Go.RowKit Mono Num Crc
set_option linter.unusedSimpArgs false
set_option linter.unusedVariables false

set_option maxHeartbeats 2000000 in
theorem frameTurned_walk (v : Value) (l : List UInt8) (y : Int) (t : BitVec 32) (w : World) (hv : Bs w v l) (hz : l.length * 1 ≤ 140737488351232) :
    Calls Try.prog 7 #[v, .int .i64 y, .int .u32 ((t.toNat : Nat) : Int)] w fun e w' => e = .returned (.bool true) ∧ Ext w w' := by
  obtain ⟨A, c, rfl, h1, h2, _, _⟩ := hv.open_
  unfold maxLen at h2
  by_cases hl : 20000 < l.length
  · go_enter Try.func7, Try.ntmps7
    go_wp2_with fail
    refine (lives_any _).mono ?_
    rintro e w' ⟨rfl, he⟩
    go_wp2_with fail
    go_ret
    exact ⟨rfl, he⟩
  by_cases ht0 : t = 0#32
  · subst ht0
    go_enter Try.func7, Try.ntmps7
    go_wp2_with fail
    refine (lives_any _).mono ?_
    rintro e w' ⟨rfl, he⟩
    go_wp2_with fail
    go_ret
    exact ⟨rfl, he⟩
  have ht1 : (((t.toNat : Nat) : Int) == 0) = false := by
    rw [beq_eq_false_iff_ne]
    intro e
    apply ht0
    apply BitVec.eq_of_toNat_eq
    simp
    omega
  obtain ⟨q, hq, hqe⟩ := place_int y l.length (by omega)
  have HB := Lib.hid (fopen_turned l q t (by omega) hq ht0)
  obtain ⟨hlen, hk1, hk8⟩ := frame_len l (by omega)
  have HL := Lib.hid hlen
  have HK := Lib.hid (show 1 ≤ nsize (l.length : Int) ∧ nsize (l.length : Int) ≤ 8 from ⟨hk1, hk8⟩)
  clear hlen hk1 hk8 ht0
  go_enter Try.func7, Try.ntmps7
  go_wp2_with fail
  refine (fWrap_any _ l _ hv).mono ?_
  rintro e w1 ⟨r1, rfl, k1, x1⟩
  obtain ⟨g, cap, rfl, hgb1, hgb2, hg3, hg4⟩ := OwB.form_ k1 HL.out (by omega)
  have hk1 := HK.out.1
  have hk8 := HK.out.2
  generalize nsize (l.length : Int) = k at *
  go_wp2_with fail
  rw [hqe]
  clear hqe
  rw [show (1 + (k : Int) + (l.length : Int) + 4 - (l.length : Int) - 4) = ((1 + k : Nat) : Int) by omega]
  rw [show ((1 + k : Nat) : Int) + (q : Int) = ((1 + k + q : Nat) : Int) by omega]
  go_loopw [10, 46] (fun _ i wr => ∃ j : Nat, j ≤ 4 ∧ i = .int .i64 j ∧ OwB wr w.heap.size (.slice (some ⟨g, 0, none⟩) (1 + k + l.length + 4) cap) (tw (wrap l) (1 + k + q) t j) ∧ Ext w wr) (fun _ i _ => 4 - (intOf i).toNat)
  case atStart => exact ⟨0, by omega, rfl, k1, x1⟩
  case round =>
    obtain ⟨j, hj, rfl, how, hbr⟩ := hrel
    have htl : (tw (wrap l) (1 + k + q) t j).length = 1 + k + l.length + 4 := by rw [tw_length, HL.out]
    by_cases hlt : j < 4
    · obtain ⟨hc, hf⟩ := how.cell (1 + k + q + j) (by omega)
      have hset := how.set_ (1 + k + q + j) ((tw (wrap l) (1 + k + q) t j).getD (1 + k + q + j) 0 ^^^ tb t j)
      have he : (tw (wrap l) (1 + k + q) t j).set (1 + k + q + j) ((tw (wrap l) (1 + k + q) t j).getD (1 + k + q + j) 0 ^^^ tb t j) = tw (wrap l) (1 + k + q) t (j + 1) := rfl
      rw [he] at hset
      clear he htl
      generalize (tw (wrap l) (1 + k + q) t j).getD (1 + k + q + j) 0 = z at *
      have hb8 := z.toNat_lt
      have h24 : 0 ≤ (24 : Int) - 8 * (j : Int) := by omega
      have HX := Lib.hid (tb_int z t j hlt)
      go_wp2_with fail
      rw [HX.out]
      exact ⟨⟨j + 1, by omega, by go_num, hset, Below.setCell hbr hgb1 _⟩, by simp [intOf]; omega⟩
    · have hj4 : j = 4 := by omega
      subst hj4
      have hO := fOpen_any _ (tw (wrap l) (1 + k + q) t 4) wr how.bs (by rw [htl]; omega)
      rw [HB.out] at hO
      unfold openV at hO
      dsimp only at hO
      have HO := Lib.hid hO
      clear hO htl
      go_wp2_with fail
      refine HO.out.mono ?_
      rintro e w4 ⟨r4, rfl, k4, x4⟩
      obtain ⟨A4, c4, rfl, _, _, _, _⟩ := k4.bs.open_
      dsimp only [List.length_nil] at k4 ⊢
      go_wp2_with fail
      refine (lives_any _).mono ?_
      rintro e w6 ⟨rfl, x5⟩
      go_wp2_with fail
      go_ret
      exact ⟨rfl, Ext.trans (Ext.trans hbr x4) x5⟩
end Go.Proofs.Ytlhnlnmhgkkbaaa
