/-
  Layer 12: the sort's functions, over a 'less' that lays blocks: sift, heap.
-/
import Derived.Test.YtocdifjdeifclaaSrt1
import Derived.Sort.WalkB3
namespace Go.Proofs.Ytocdifjdeifclaa
open Go Go.RowKit Mono Go.Sort
set_option linter.unusedVariables false
set_option linter.unusedSimpArgs false
set_option maxRecDepth 100000
set_option maxHeartbeats 4000000
variable {w0 W W' : World} {ob sf : Nat} {sb : Array Value} {blk off n : Nat} {d d' : Array Wr}

theorem sSift_any (S : Srt w0 ob sf sb blk off n) (h : St w0 blk off n d W) {lo hi first : Nat} (hf : first + hi ≤ n) (hl : lo ≤ n) :
    Calls Try.prog 109 #[.agg #[.func (.func 63) #[] #[.pointer (some ⟨ob, 0, none⟩)], .func (.func sf) #[] sb], .int .i64 (lo : Int), .int .i64 (hi : Int), .int .i64 (first : Int)] W
      fun e w' => e = .returned (.tuple #[]) ∧ Rb blk W w' ∧ St w0 blk off n (siftDown wahead hi first lo d) w' := by
  have hn := S.hn
  have HS := Lib.hid S
  have hx := ext_alloc W (.cells #[.func (.func 63) #[] #[.pointer (some ⟨ob, 0, none⟩)], .func (.func sf) #[] sb] 147)
  have HBX := Lib.hid (Blk.new W #[.func (.func 63) #[] #[.pointer (some ⟨ob, 0, none⟩)], .func (.func sf) #[] sb] 147)
  have HH := Lib.hid (h.ext S hx)
  have HX := Lib.hid hx
  have HNB := Lib.hid (show W.heap.size ≠ blk by have := h.lt S; omega)
  have HNL := Lib.hid (show W.heap.size < (W.alloc (.cells #[.func (.func 63) #[] #[.pointer (some ⟨ob, 0, none⟩)], .func (.func sf) #[] sb] 147)).heap.size by rw [World.size_alloc]; omega)
  have HLO := Lib.hid (show w0.heap.size ≤ W.heap.size from h.rb.size)
  have k0 := HBX.out.cell (i := 0) rfl
  have k1 := HBX.out.cell (i := 1) rfl
  clear hx h S
  go_enter Try.func109, Try.ntmps109
  go_wp2_with fail
  obtain ⟨nb, hnb⟩ : ∃ nb, nb = W.heap.size := ⟨_, rfl⟩
  obtain ⟨wb, hwb⟩ : ∃ wb, wb = W.alloc (.cells #[.func (.func 63) #[] #[.pointer (some ⟨ob, 0, none⟩)], .func (.func sf) #[] sb] 147) := ⟨_, rfl⟩
  rw [← hwb] at HBX HH HX HNL k0 k1 ⊢
  rw [← hnb] at HBX HNB HNL HLO k0 k1 ⊢
  clear hwb hnb
  clear k0 k1
  go_loopw [8] (fun vr wr => ∃ (r : Nat) (dk : Array Wr), vr = .int .i64 r ∧ r ≤ n ∧ Rb blk wb wr ∧ St w0 blk off n dk wr ∧ siftDown wahead hi first r dk = siftDown wahead hi first lo d) (fun vr _ => hi - (intOf vr).toNat)
  case atStart => exact ⟨lo, d, rfl, hl, Rb.refl _ _, HH.out, rfl⟩
  case round =>
    obtain ⟨r, dk, rfl, hr, hrb, hst, hO⟩ := hrel
    have HO := Lib.hid hO
    have HRB := Lib.hid hrb
    have HST := Lib.hid hst
    obtain ⟨m, hm⟩ : ∃ m, m = 2 * r := ⟨_, rfl⟩
    obtain ⟨c, hc⟩ : ∃ c, c = m + 1 := ⟨_, rfl⟩
    have hw1 : IntKind.i64.wrap (2 * (r : Int)) = (m : Int) := by rw [IntWalk.i64_in _ (by omega)]; omega
    have hw2 : IntKind.i64.wrap ((m : Int) + 1) = (c : Int) := by rw [IntWalk.i64_in _ (by omega)]; omega
    have bx := HRB.out.blk HBX.out HNB.out
    have c0 := bx.cell (i := 0) rfl
    clear hO hrb hst HH bx
    by_cases hch : hi ≤ c
    · have HD := Lib.hid (show siftDown wahead hi first lo d = dk by rw [← HO.out]; exact sd_end wahead dk (by omega))
      have hch1 : (hi : Int) ≤ (c : Int) := by omega
      go_wp2_with fail
      go_end0
      rw [HD.out]
      exact ⟨rfl, (Rb.of_ext HX.out).trans HRB.out, HST.out⟩
    have hch1 : ¬ (hi : Int) ≤ (c : Int) := by omega
    obtain ⟨c2, hc2⟩ : ∃ c2, c2 = c + 1 := ⟨_, rfl⟩
    have hw3 : IntKind.i64.wrap ((c : Int) + 1) = (c2 : Int) := by rw [IntWalk.i64_in _ (by omega)]; omega
    obtain ⟨fc, hfc⟩ : ∃ x, x = first + c := ⟨_, rfl⟩
    obtain ⟨fc2, hfc2⟩ : ∃ x, x = first + c2 := ⟨_, rfl⟩
    obtain ⟨fr, hfr⟩ : ∃ x, x = first + r := ⟨_, rfl⟩
    have hw4 : IntKind.i64.wrap ((first : Int) + (c : Int)) = (fc : Int) := by rw [IntWalk.i64_in _ (by omega)]; omega
    have hw5 : IntKind.i64.wrap ((fc : Int) + 1) = (fc2 : Int) := by rw [IntWalk.i64_in _ (by omega)]; omega
    have hw6 : IntKind.i64.wrap ((first : Int) + (r : Int)) = (fr : Int) := by rw [IntWalk.i64_in _ (by omega)]; omega
    have hw7 : IntKind.i64.wrap ((first : Int) + (c2 : Int)) = (fc2 : Int) := by rw [IntWalk.i64_in _ (by omega)]; omega
    have HE := Lib.hid (show m = 2 * r ∧ c = m + 1 ∧ c2 = c + 1 ∧ fc = first + c ∧ fc2 = first + c2 ∧ fr = first + r from ⟨hm, hc, hc2, hfc, hfc2, hfr⟩)
    clear hm hc hc2 hfc hfc2 hfr
    by_cases hc2h : c2 < hi
    · have hc2h1 : (c2 : Int) < (hi : Int) := by omega
      have HL1 := Lib.hid (HS.out.le HST.out (i := fc) (j := fc2) (by have := HE.out; omega) (by have := HE.out; omega))
      go_wp2_with fail
      refine HL1.out.mono ?_
      rintro e w3 ⟨rfl, hx3⟩
      have HST3 := Lib.hid (HST.out.ext HS.out hx3)
      have HRB3 := Lib.hid (HRB.out.trans (Rb.of_ext hx3))
      clear c0 HL1
      have c0 := (HRB3.out.blk HBX.out HNB.out).cell (i := 0) rfl
      clear hx3
      cases hl1 : wahead dk[fc]! dk[fc2]! with
      | true =>
        have HL2 := Lib.hid (HS.out.le HST3.out (i := fr) (j := fc2) (by have := HE.out; omega) (by have := HE.out; omega))
        go_wp2_with fail
        refine HL2.out.mono ?_
        rintro e w4 ⟨rfl, hx4⟩
        have HST4 := Lib.hid (HST3.out.ext HS.out hx4)
        have HRB4 := Lib.hid (HRB3.out.trans (Rb.of_ext hx4))
        clear hx4 c0 HL2
        cases hl2 : wahead dk[fr]! dk[fc2]! with
        | false =>
          have HD := Lib.hid (show siftDown wahead hi first lo d = dk by rw [← HO.out]; exact by obtain ⟨e1, e2, e3, e4, e5, e6⟩ := HE.out; subst e5 e6 e4 e3 e2 e1; exact sd_right_stop wahead dk (by omega) hl1 hl2)
          go_wp2_with fail
          first | go_end0 | refine bodyPost_ret (results_none rfl _ _ _) rfl ?_
          rw [HD.out]
          exact ⟨rfl, (Rb.of_ext HX.out).trans HRB4.out, HST4.out⟩
        | true =>
          have bx := HRB4.out.blk HBX.out HNB.out
          have c1 := bx.cell (i := 1) rfl
          obtain ⟨w5, hrun, hk5, hst5⟩ := HS.out.swp HST4.out (i := fr) (j := fc2) (by have := HE.out; omega) (by have := HE.out; omega)
          have HST5 := Lib.hid hst5
          have HRB5 := Lib.hid (HRB4.out.trans hk5)
          have HD := Lib.hid (show siftDown wahead hi first r dk = siftDown wahead hi first c2 (Go.Sort.swp dk fr fc2) by obtain ⟨e1, e2, e3, e4, e5, e6⟩ := HE.out; subst e5 e6 e4 e3 e2 e1; exact sd_right_go wahead dk (by omega) hl1 hl2)
          clear bx hk5 hst5
          go_wp2_with fail
          go_roundw
          case rel => exact ⟨c2, _, rfl, by have := HE.out; omega, HRB5.out, HST5.out, by rw [← HO.out, HD.out]⟩
          case measure => have := HE.out; simp [intOf]; omega
      | false =>
        have HL2 := Lib.hid (HS.out.le HST3.out (i := fr) (j := fc) (by have := HE.out; omega) (by have := HE.out; omega))
        go_wp2_with fail
        refine HL2.out.mono ?_
        rintro e w4 ⟨rfl, hx4⟩
        have HST4 := Lib.hid (HST3.out.ext HS.out hx4)
        have HRB4 := Lib.hid (HRB3.out.trans (Rb.of_ext hx4))
        clear hx4 c0 HL2
        cases hl2 : wahead dk[fr]! dk[fc]! with
        | false =>
          have HD := Lib.hid (show siftDown wahead hi first lo d = dk by rw [← HO.out]; exact by obtain ⟨e1, e2, e3, e4, e5, e6⟩ := HE.out; subst e5 e6 e4 e3 e2 e1; exact sd_left_stop wahead dk (by omega) (fun h => hl1) hl2)
          go_wp2_with fail
          first | go_end0 | refine bodyPost_ret (results_none rfl _ _ _) rfl ?_
          rw [HD.out]
          exact ⟨rfl, (Rb.of_ext HX.out).trans HRB4.out, HST4.out⟩
        | true =>
          have bx := HRB4.out.blk HBX.out HNB.out
          have c1 := bx.cell (i := 1) rfl
          obtain ⟨w5, hrun, hk5, hst5⟩ := HS.out.swp HST4.out (i := fr) (j := fc) (by have := HE.out; omega) (by have := HE.out; omega)
          have HST5 := Lib.hid hst5
          have HRB5 := Lib.hid (HRB4.out.trans hk5)
          have HD := Lib.hid (show siftDown wahead hi first r dk = siftDown wahead hi first c (Go.Sort.swp dk fr fc) by obtain ⟨e1, e2, e3, e4, e5, e6⟩ := HE.out; subst e5 e6 e4 e3 e2 e1; exact sd_left_go wahead dk (by omega) (fun h => hl1) hl2)
          clear bx hk5 hst5
          go_wp2_with fail
          go_roundw
          case rel => exact ⟨c, _, rfl, by have := HE.out; omega, HRB5.out, HST5.out, by rw [← HO.out, HD.out]⟩
          case measure => have := HE.out; simp [intOf]; omega
    · have hc2h1 : ¬ (c2 : Int) < (hi : Int) := by omega
      have HL2 := Lib.hid (HS.out.le HST.out (i := fr) (j := fc) (by have := HE.out; omega) (by have := HE.out; omega))
      go_wp2_with fail
      refine HL2.out.mono ?_
      rintro e w4 ⟨rfl, hx4⟩
      have HST4 := Lib.hid (HST.out.ext HS.out hx4)
      have HRB4 := Lib.hid (HRB.out.trans (Rb.of_ext hx4))
      clear hx4 c0 HL2
      cases hl2 : wahead dk[fr]! dk[fc]! with
      | false =>
        have HD := Lib.hid (show siftDown wahead hi first lo d = dk by rw [← HO.out]; exact by obtain ⟨e1, e2, e3, e4, e5, e6⟩ := HE.out; subst e5 e6 e4 e3 e2 e1; exact sd_left_stop wahead dk (by omega) (fun h => absurd h hc2h) hl2)
        go_wp2_with fail
        first | go_end0 | refine bodyPost_ret (results_none rfl _ _ _) rfl ?_
        rw [HD.out]
        exact ⟨rfl, (Rb.of_ext HX.out).trans HRB4.out, HST4.out⟩
      | true =>
        have bx := HRB4.out.blk HBX.out HNB.out
        have c1 := bx.cell (i := 1) rfl
        obtain ⟨w5, hrun, hk5, hst5⟩ := HS.out.swp HST4.out (i := fr) (j := fc) (by have := HE.out; omega) (by have := HE.out; omega)
        have HST5 := Lib.hid hst5
        have HRB5 := Lib.hid (HRB4.out.trans hk5)
        have HD := Lib.hid (show siftDown wahead hi first r dk = siftDown wahead hi first c (Go.Sort.swp dk fr fc) by obtain ⟨e1, e2, e3, e4, e5, e6⟩ := HE.out; subst e5 e6 e4 e3 e2 e1; exact sd_left_go wahead dk (by omega) (fun h => absurd h hc2h) hl2)
        clear bx hk5 hst5
        go_wp2_with fail
        go_roundw
        case rel => exact ⟨c, _, rfl, by have := HE.out; omega, HRB5.out, HST5.out, by rw [← HO.out, HD.out]⟩
        case measure => have := HE.out; simp [intOf]; omega

theorem sHeap_any (S : Srt w0 ob sf sb blk off n) (h : St w0 blk off n d W) {a b : Nat} (hab : a ≤ b) (hb : b ≤ n) :
    Calls Try.prog 102 #[.agg #[.func (.func 63) #[] #[.pointer (some ⟨ob, 0, none⟩)], .func (.func sf) #[] sb], .int .i64 (a : Int), .int .i64 (b : Int)] W
      fun e w' => e = .returned (.tuple #[]) ∧ Rb blk W w' ∧ St w0 blk off n (heapSort wahead d a b) w' := by
  obtain ⟨hi, hhi⟩ : ∃ hi, hi = b - a := ⟨_, rfl⟩
  obtain ⟨i0, hi0⟩ : ∃ i0, i0 = (hi - 1) / 2 := ⟨_, rfl⟩
  have HIE := Lib.hid (show hi = b - a ∧ i0 = (hi - 1) / 2 from ⟨hhi, hi0⟩)
  have HHP := Lib.hid (show heapSort wahead d a b = heapPop wahead a hi (heapBuild wahead hi a (i0 + 1) d) by unfold heapSort; rw [hhi.symm, hi0])
  have hw1 : IntKind.i64.wrap ((b : Int) - (a : Int)) = (hi : Int) := by have := S.hn; rw [IntWalk.i64_in _ (by omega)]; omega
  have hw2 : IntKind.i64.wrap ((hi : Int) - 1) = (hi : Int) - 1 := by have := S.hn; rw [IntWalk.i64_in _ (by omega)]
  have hq : ((hi : Int) - 1).tdiv 2 = (i0 : Int) := by
    by_cases h0 : hi = 0
    · subst h0
      rw [hi0]
      rfl
    · obtain ⟨k, rfl⟩ : ∃ k, hi = k + 1 := ⟨hi - 1, by omega⟩
      rw [hi0, show ((k + 1 : Nat) : Int) - 1 = (k : Int) by omega]
      rw [Int.tdiv_eq_ediv_of_nonneg (by omega)]
      omega
  have hw3 : IntKind.i64.wrap (i0 : Int) = (i0 : Int) := by have := S.hn; rw [IntWalk.i64_in _ (by omega)]
  clear hhi hi0
  have hn := S.hn
  have HS := Lib.hid S
  have hx := ext_alloc W (.cells #[.func (.func 63) #[] #[.pointer (some ⟨ob, 0, none⟩)], .func (.func sf) #[] sb] 147)
  have HBX := Lib.hid (Blk.new W #[.func (.func 63) #[] #[.pointer (some ⟨ob, 0, none⟩)], .func (.func sf) #[] sb] 147)
  have HH := Lib.hid (h.ext S hx)
  have HX := Lib.hid hx
  have HNB := Lib.hid (show W.heap.size ≠ blk by have := h.lt S; omega)
  have HNL := Lib.hid (show W.heap.size < (W.alloc (.cells #[.func (.func 63) #[] #[.pointer (some ⟨ob, 0, none⟩)], .func (.func sf) #[] sb] 147)).heap.size by rw [World.size_alloc]; omega)
  have HLO := Lib.hid (show w0.heap.size ≤ W.heap.size from h.rb.size)
  have k0 := HBX.out.cell (i := 0) rfl
  have k1 := HBX.out.cell (i := 1) rfl
  clear hx h S
  go_enter Try.func102, Try.ntmps102
  go_wp2_with fail
  obtain ⟨nb, hnb⟩ : ∃ nb, nb = W.heap.size := ⟨_, rfl⟩
  obtain ⟨wb, hwb⟩ : ∃ wb, wb = W.alloc (.cells #[.func (.func 63) #[] #[.pointer (some ⟨ob, 0, none⟩)], .func (.func sf) #[] sb] 147) := ⟨_, rfl⟩
  rw [← hwb] at HBX HH HX HNL k0 k1 ⊢
  rw [← hnb] at HBX HNB HNL HLO k0 k1 ⊢
  clear hwb hnb
  go_loopw [9] (fun vi wr => ∃ (k : Nat) (dk : Array Wr), vi = .int .i64 ((k : Int) - 1) ∧ k ≤ i0 + 1 ∧ Rb blk wb wr ∧ St w0 blk off n dk wr ∧ heapBuild wahead hi a k dk = heapBuild wahead hi a (i0 + 1) d) (fun vi _ => (intOf vi + 1).toNat)
  case atStart => exact ⟨i0 + 1, d, by congr 1; omega, Nat.le_refl _, Rb.refl _ _, HH.out, rfl⟩
  case round =>
    obtain ⟨k, dk, rfl, hk, hrb, hst, hO⟩ := hrel
    have HO := Lib.hid hO
    have HRB := Lib.hid hrb
    have HST := Lib.hid hst
    have bx := HRB.out.blk HBX.out HNB.out
    have c0 := bx.cell (i := 0) rfl
    have c1 := bx.cell (i := 1) rfl
    clear hO hrb hst HH bx k0 k1
    cases k with
    | succ i =>
      have hge : (0 : Int) ≤ (i : Int) := by omega
      have hcast : (((i + 1 : Nat) : Int) - 1) = (i : Int) := by omega
      have hcast2 : ((i : Int) + 1 - 1) = (i : Int) := by omega
      have HSI := Lib.hid (sSift_any HS.out HST.out (lo := i) (hi := hi) (first := a) (by have := HIE.out; omega) (by have := HIE.out; omega))
      have hw4 : IntKind.i64.wrap ((i : Int) - 1) = (i : Int) - 1 := by rw [IntWalk.i64_in _ (by have := HIE.out; omega)]
      rw [hcast]
      go_wp2_with fail
      refine HSI.out.mono ?_
      rintro e w3 ⟨rfl, hk3, hst3⟩
      have HST3 := Lib.hid hst3
      have HRB3 := Lib.hid (HRB.out.trans hk3)
      clear hk3 hst3 c0 c1
      go_wp2_with fail
      go_roundw
      case rel => exact ⟨i, _, rfl, by omega, HRB3.out, HST3.out, by rw [← HO.out]; rfl⟩
      case measure => simp [intOf] <;> omega
    | zero =>
      have hge : ¬ (0 : Int) ≤ ((0 : Nat) : Int) - 1 := by omega
      have HD0 := Lib.hid (show heapSort wahead d a b = heapPop wahead a hi dk by rw [HHP.out, ← HO.out]; rfl)
      go_wp2_with fail
      clear c0 c1 hge
      go_loopw [10] (fun vi wr => ∃ (k : Nat) (dj : Array Wr), vi = .int .i64 ((k : Int) - 1) ∧ k ≤ hi ∧ Rb blk wb wr ∧ St w0 blk off n dj wr ∧ heapPop wahead a k dj = heapPop wahead a hi dk) (fun vi _ => (intOf vi + 1).toNat)
      case atStart => exact ⟨hi, dk, rfl, Nat.le_refl _, HRB.out, HST.out, rfl⟩
      case round =>
        clear HRB HST
        obtain ⟨k, dj, rfl, hk2, hrb2, hst2, hO2⟩ := hrel
        have HO2 := Lib.hid hO2
        have HRB2 := Lib.hid hrb2
        have HST2 := Lib.hid hst2
        clear hO2 hrb2 hst2
        cases k with
        | succ i =>
          have hge : (0 : Int) ≤ (i : Int) := by omega
          have hcast : (((i + 1 : Nat) : Int) - 1) = (i : Int) := by omega
          obtain ⟨ai, hai⟩ : ∃ ai, ai = a + i := ⟨_, rfl⟩
          have hw5 : IntKind.i64.wrap ((a : Int) + (i : Int)) = (ai : Int) := by rw [IntWalk.i64_in _ (by have := HIE.out; omega)]; omega
          have hw4 : IntKind.i64.wrap ((i : Int) - 1) = (i : Int) - 1 := by rw [IntWalk.i64_in _ (by have := HIE.out; omega)]
          have c1 := (HRB2.out.blk HBX.out HNB.out).cell (i := 1) rfl
          obtain ⟨w3, hrun, hk3, hst3⟩ := HS.out.swp HST2.out (i := a) (j := ai) (by have := HIE.out; omega) (by have := HIE.out; omega)
          have HST3 := Lib.hid hst3
          have HRB3 := Lib.hid (HRB2.out.trans hk3)
          have HAI := Lib.hid hai
          have bx := HRB3.out.blk HBX.out HNB.out
          have d0 := bx.cell (i := 0) rfl
          have d1 := bx.cell (i := 1) rfl
          have HSI := Lib.hid (sSift_any HS.out HST3.out (lo := 0) (hi := i) (first := a) (by have := HIE.out; omega) (Nat.zero_le _))
          clear hk3 hst3 hai bx
          rw [hcast]
          go_wp2_with fail
          refine HSI.out.mono ?_
          rintro e w4 ⟨rfl, hk4, hst4⟩
          have HST4 := Lib.hid hst4
          have HRB4 := Lib.hid (HRB3.out.trans hk4)
          clear hk4 hst4 c1 d0 d1 hrun
          go_wp2_with fail
          go_roundw
          case rel => exact ⟨i, _, rfl, by omega, HRB4.out, HST4.out, by rw [← HO2.out, HAI.out]; rfl⟩
          case measure => simp [intOf] <;> omega
        | zero =>
          have hge : ¬ (0 : Int) ≤ ((0 : Nat) : Int) - 1 := by omega
          have HD := Lib.hid (show heapSort wahead d a b = dj by rw [HD0.out, ← HO2.out]; rfl)
          go_wp2_with fail
          go_end0
          rw [HD.out]
          exact ⟨rfl, (Rb.of_ext HX.out).trans HRB2.out, HST2.out⟩
end Go.Proofs.Ytocdifjdeifclaa
