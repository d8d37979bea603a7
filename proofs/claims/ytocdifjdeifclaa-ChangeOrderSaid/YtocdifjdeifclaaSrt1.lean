/-
  Layer 12: the sort's functions, over a 'less' that lays blocks: insertion.
-/
import Derived.Test.YtocdifjdeifclaaSrt0
namespace Go.Proofs.Ytocdifjdeifclaa
open Go Go.RowKit Mono Go.Sort
set_option linter.unusedVariables false
set_option linter.unusedSimpArgs false
set_option maxRecDepth 100000
set_option maxHeartbeats 4000000
variable {w0 W W' : World} {ob sf : Nat} {sb : Array Value} {blk off n : Nat} {d d' : Array Wr}

theorem sIns_any (S : Srt w0 ob sf sb blk off n) (h : St w0 blk off n d W) {a b : Nat} (hab : a ≤ b) (hb : b ≤ n) :
    Calls Try.prog 101 #[.agg #[.func (.func 63) #[] #[.pointer (some ⟨ob, 0, none⟩)], .func (.func sf) #[] sb], .int .i64 (a : Int), .int .i64 (b : Int)] W
      fun e w' => e = .returned (.tuple #[]) ∧ Rb blk W w' ∧ St w0 blk off n (insertionSort wahead d a b) w' := by
  have hn := S.hn
  have HS := Lib.hid S
  have hx := ext_alloc W (.cells #[.func (.func 63) #[] #[.pointer (some ⟨ob, 0, none⟩)], .func (.func sf) #[] sb] 147)
  have HBX := Lib.hid (Blk.new W #[.func (.func 63) #[] #[.pointer (some ⟨ob, 0, none⟩)], .func (.func sf) #[] sb] 147)
  have HH := Lib.hid (h.ext S hx)
  have HX := Lib.hid hx
  have HNB := Lib.hid (show W.heap.size ≠ blk by have := h.lt S; omega)
  clear hx h S
  go_enter Try.func101, Try.ntmps101
  go_wp2_with fail
  obtain ⟨nb, hnb⟩ : ∃ nb, nb = W.heap.size := ⟨_, rfl⟩
  obtain ⟨wb, hwb⟩ : ∃ wb, wb = W.alloc (.cells #[.func (.func 63) #[] #[.pointer (some ⟨ob, 0, none⟩)], .func (.func sf) #[] sb] 147) := ⟨_, rfl⟩
  rw [← hwb] at HBX HH HX ⊢
  rw [← hnb] at HBX HNB ⊢
  clear hwb hnb
  go_loopw [6] (fun vi wr => ∃ (i : Nat) (dk : Array Wr), vi = .int .i64 i ∧ a < i ∧ i ≤ b + 1 ∧ Rb blk wb wr ∧ St w0 blk off n dk wr ∧ insOuter wahead a b i dk = insOuter wahead a b (a + 1) d) (fun vi _ => b + 1 - (intOf vi).toNat)
  case atStart => exact ⟨a + 1, d, by go_num, by omega, by omega, Rb.refl _ _, HH.out, rfl⟩
  case round =>
    obtain ⟨i, dk, rfl, hai, hib, hrb, hst, hO⟩ := hrel
    have HO := Lib.hid hO
    have HRB := Lib.hid hrb
    have HST := Lib.hid hst
    clear hO hrb hst HH
    by_cases hlt : i < b
    · have hi1 : (i : Int) < (b : Int) := by omega
      go_wp2_with fail
      go_loopw [7] (fun vj wr2 => ∃ (j : Nat) (dj : Array Wr), vj = .int .i64 j ∧ a ≤ j ∧ j ≤ i ∧ Rb blk wb wr2 ∧ St w0 blk off n dj wr2 ∧ insInner wahead a j dj = insInner wahead a i dk) (fun vj _ => (intOf vj).toNat)
      case atStart => exact ⟨i, dk, rfl, by omega, Nat.le_refl _, HRB.out, HST.out, rfl⟩
      case round =>
        obtain ⟨j, dj, rfl, haj, hji, hrb2, hst2, hI⟩ := hrel
        have HI := Lib.hid hI
        have HRB2 := Lib.hid hrb2
        have HST2 := Lib.hid hst2
        clear hI hrb2 hst2 HRB HST
        by_cases hja : a < j
        · obtain ⟨j1, hj1⟩ : ∃ j1, j1 = j - 1 := ⟨_, rfl⟩
          have hw1 : IntKind.i64.wrap ((j : Int) - 1) = (j1 : Int) := by rw [IntWalk.i64_in _ (by omega)]; omega
          have ha1 : (a : Int) < (j : Int) := by omega
          have bx := HRB2.out.blk HBX.out HNB.out
          have c0 := bx.cell (i := 0) rfl
          have HLE := Lib.hid (HS.out.le HST2.out (i := j) (j := j1) (by omega) (by omega))
          have HJ1 := Lib.hid hj1
          clear bx hj1
          go_wp2_with fail
          refine HLE.out.mono ?_
          rintro e w3 ⟨rfl, hx3⟩
          have HST3 := Lib.hid (HST2.out.ext HS.out hx3)
          have HRB3 := Lib.hid (HRB2.out.trans (Rb.of_ext hx3))
          clear hx3 c0
          cases hlv : wahead dj[j]! dj[j1]! with
          | true =>
            have bx := HRB3.out.blk HBX.out HNB.out
            have c1 := bx.cell (i := 1) rfl
            obtain ⟨w4, hrun, hk4, hst4⟩ := HS.out.swp HST3.out (i := j) (j := j1) (by omega) (by have := HJ1.out; omega)
            have HST4 := Lib.hid hst4
            have HRB4 := Lib.hid (HRB3.out.trans hk4)
            clear bx hk4 hst4
            go_wp2_with fail
            go_roundw
            case rel => exact ⟨j1, _, rfl, by have := HJ1.out; omega, by have := HJ1.out; omega, HRB4.out, HST4.out, by rw [← HI.out, insInner_go wahead a j dj hja (by rw [← HJ1.out]; exact hlv), HJ1.out]⟩
            case measure => have := HJ1.out; simp [intOf]; omega
          | false =>
            go_wp2_with fail
            go_roundw
            case rel => exact ⟨i + 1, dj, by go_num, by omega, by omega, HRB3.out, HST3.out, by rw [← HO.out, insOuter_go _ _ _ _ _ hlt, ← HI.out, insInner_stop _ _ _ _ (Or.inr (by rw [← HJ1.out]; exact hlv))]⟩
            case measure => simp [intOf]; omega
        · have ha1 : ¬ (a : Int) < (j : Int) := by omega
          go_wp2_with fail
          go_roundw
          case rel => exact ⟨i + 1, dj, by go_num, by omega, by omega, HRB2.out, HST2.out, by rw [← HO.out, insOuter_go _ _ _ _ _ hlt, ← HI.out, insInner_stop _ _ _ _ (Or.inl (by omega))]⟩
          case measure => simp [intOf]; omega
    · have hi1 : ¬ (i : Int) < (b : Int) := by omega
      have hd : insOuter wahead a b i dk = dk := by rw [insOuter, if_neg hlt]
      have HD := Lib.hid (show insertionSort wahead d a b = dk by unfold insertionSort; rw [← HO.out, hd])
      clear hd
      go_wp2_with fail
      go_end0
      rw [HD.out]
      exact ⟨rfl, (Rb.of_ext HX.out).trans HRB.out, HST.out⟩
end Go.Proofs.Ytocdifjdeifclaa
