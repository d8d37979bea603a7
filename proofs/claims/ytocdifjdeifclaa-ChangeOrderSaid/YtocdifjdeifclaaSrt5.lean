/-
  Layer 12: the sort's functions, over a 'less' that lays blocks: partial insertion.
-/
import Derived.Test.YtocdifjdeifclaaSrt2
import Derived.Sort.WalkA6
import Derived.Deep.DeepCutAuto
import Derived.Deep.CutBlock
import Derived.Deep.LoopGhost
namespace Go.Proofs.Ytocdifjdeifclaa
open Go Go.RowKit Mono Go.Sort
set_option linter.unusedVariables false
set_option linter.unusedSimpArgs false
set_option maxRecDepth 100000
set_option maxHeartbeats 4000000
variable {w0 W W' : World} {ob sf : Nat} {sb : Array Value} {blk off n : Nat} {d d' : Array Wr}

theorem sPartial_any (S : Srt w0 ob sf sb blk off n) (h : St w0 blk off n d W) {a b : Nat} (hab : a < b) (hb : b ≤ n) :
    Calls Try.prog 106 #[.agg #[.func (.func 63) #[] #[.pointer (some ⟨ob, 0, none⟩)], .func (.func sf) #[] sb], .int .i64 (a : Int), .int .i64 (b : Int)] W
      fun e w' => e = .returned (.bool (partialInsertionSort wahead d a b).2) ∧ Rb blk W w' ∧ St w0 blk off n (partialInsertionSort wahead d a b).1 w' := by
  have hn := S.hn
  have HS := Lib.hid S
  have hx := ext_alloc W (.cells #[.func (.func 63) #[] #[.pointer (some ⟨ob, 0, none⟩)], .func (.func sf) #[] sb] 147)
  have HBX := Lib.hid (Blk.new W #[.func (.func 63) #[] #[.pointer (some ⟨ob, 0, none⟩)], .func (.func sf) #[] sb] 147)
  have HH := Lib.hid (h.ext S hx)
  have HX := Lib.hid hx
  have HNB := Lib.hid (show W.heap.size ≠ blk by have := h.lt S; omega)
  have HNL := Lib.hid (show W.heap.size < (W.alloc (.cells #[.func (.func 63) #[] #[.pointer (some ⟨ob, 0, none⟩)], .func (.func sf) #[] sb] 147)).heap.size by rw [World.size_alloc]; omega)
  have HLO := Lib.hid (show w0.heap.size ≤ W.heap.size from h.rb.size)
  have k0 := HBX.out.cell (i := 0) rfl
  have k1 := HBX.out.cell (i := 1) rfl
  clear hx h S
  go_enter Try.func106, Try.ntmps106
  go_wp2_with fail
  obtain ⟨nb, hnb⟩ : ∃ nb, nb = W.heap.size := ⟨_, rfl⟩
  obtain ⟨wb, hwb⟩ : ∃ wb, wb = W.alloc (.cells #[.func (.func 63) #[] #[.pointer (some ⟨ob, 0, none⟩)], .func (.func sf) #[] sb] 147) := ⟨_, rfl⟩
  rw [← hwb] at HBX HH HX HNL k0 k1 ⊢
  rw [← hnb] at HBX HNB HNL HLO k0 k1 ⊢
  clear hwb hnb
  obtain ⟨i0, hi0⟩ : ∃ x, x = a + 1 := ⟨_, rfl⟩
  obtain ⟨ba, hba⟩ : ∃ x, x = b - a := ⟨_, rfl⟩
  have hw1 : IntKind.i64.wrap ((a : Int) + 1) = (i0 : Int) := by rw [IntWalk.i64_in _ (by omega)]; omega
  have hw2 : IntKind.i64.wrap ((b : Int) - (a : Int)) = (ba : Int) := by rw [IntWalk.i64_in _ (by omega)]; omega
  obtain ⟨R, hR⟩ : ∃ R, R = partialIns wahead a b (5 - 0) i0 d := ⟨_, rfl⟩
  have HP := Lib.hid (show partialInsertionSort wahead d a b = R by rw [hR, hi0]; rfl)
  have HR := Lib.hid hR
  have HI0 := Lib.hid hi0
  have HBA := Lib.hid hba
  clear hR hi0 hba
  clear k0 k1
  go_loopg [7, 8] 5 (fun g vi vs wr => ∃ (i s : Nat) (dk : Array Wr), vi = .int .i64 (i : Int) ∧ vs = .int .i64 (s : Int) ∧ g = 5 - s ∧ s ≤ 5 ∧ a < i ∧ i ≤ b ∧ Rb blk wb wr ∧ St w0 blk off n dk wr ∧ partialIns wahead a b (5 - s) i dk = R)
  case atStart => exact ⟨i0, 0, d, by have := HI0.out; go_num, rfl, rfl, by omega, by have := HI0.out; omega, by have := HI0.out; omega, Rb.refl _ _, HH.out, HR.out.symm⟩
  case round =>
    clear HH HR HI0 hw1
    obtain ⟨i, s, dk, rfl, rfl, hg, hs5, hai, hib, hrb, hst, hO⟩ := hrel
    have HO := Lib.hid hO
    have HRB := Lib.hid hrb
    have HST := Lib.hid hst
    have HG := Lib.hid hg
    clear hO hrb hst hg
    by_cases hs : s < 5
    case neg =>
      have hs1 : ¬ (s : Int) < 5 := by omega
      have hE : s = 5 := by omega
      have HR2 := Lib.hid (show R = (dk, false) by rw [← HO.out, hE]; rfl)
      clear hE
      go_wp2_with fail
      go_ret
      rw [HP.out, HR2.out]
      exact ⟨rfl, (Rb.of_ext HX.out).trans HRB.out, HST.out⟩
    have hs1 : (s : Int) < 5 := by omega
    obtain ⟨s1, hs1n⟩ : ∃ x, x = s + 1 := ⟨_, rfl⟩
    have hws : IntKind.i64.wrap ((s : Int) + 1) = (s1 : Int) := by rw [IntWalk.i64_in _ (by omega)]; omega
    have HS1 := Lib.hid hs1n
    clear hs1n
    go_upto_block 2 with fail
    go_cut [7] (fun sk wc => ∃ k : Nat, sk = .int .i64 (k : Int) ∧ i ≤ k ∧ k ≤ b ∧ scanSorted wahead dk b i = k ∧ Rb blk wb wc ∧ St w0 blk off n dk wc)
    case first =>
      go_wp2_with fail
      go_loopw [7] (fun vk wr => ∃ k : Nat, vk = .int .i64 (k : Int) ∧ i ≤ k ∧ k ≤ b ∧ Rb blk wb wr ∧ St w0 blk off n dk wr ∧ scanSorted wahead dk b k = scanSorted wahead dk b i) (fun vk _ => b + 1 - (intOf vk).toNat)
      case atStart => exact ⟨i, rfl, Nat.le_refl _, hib, HRB.out, HST.out, rfl⟩
      case round =>
        obtain ⟨k, rfl, hk1, hk2, hrb, hst, hK⟩ := hrel
        have HK := Lib.hid hK
        clear HRB HST
        have HRB := Lib.hid hrb
        have HST := Lib.hid hst
        clear hK hrb hst
        by_cases hle : k < b
        · have hle1 : (k : Int) < (b : Int) := by omega
          obtain ⟨k1, hk1n⟩ : ∃ x, x = k - 1 := ⟨_, rfl⟩
          obtain ⟨k2, hk2n⟩ : ∃ x, x = k + 1 := ⟨_, rfl⟩
          have hwk : IntKind.i64.wrap ((k : Int) - 1) = (k1 : Int) := by rw [IntWalk.i64_in _ (by omega)]; omega
          have hwk2 : IntKind.i64.wrap ((k : Int) + 1) = (k2 : Int) := by rw [IntWalk.i64_in _ (by omega)]; omega
          have HK1 := Lib.hid (And.intro hk1n hk2n)
          have HLE := Lib.hid (HS.out.le HST.out (i := k) (j := k1) (by omega) (by omega))
          have c0 := (HRB.out.blk HBX.out HNB.out).cell (i := 0) rfl
          clear hk1n hk2n
          go_wp2_with fail
          refine HLE.out.mono ?_
          rintro e w3 ⟨rfl, hx3⟩
          have HST3 := Lib.hid (HST.out.ext HS.out hx3)
          have HRB3 := Lib.hid (HRB.out.trans (Rb.of_ext hx3))
          clear hx3 c0 HLE
          cases hlv : wahead dk[k]! dk[k1]! with
          | false =>
            go_wp2_with fail
            go_roundw
            case rel => exact ⟨k2, rfl, by have := HK1.out; omega, by have := HK1.out; omega, HRB3.out, HST3.out, by rw [← HK.out, scanSorted_go wahead dk b k hle (by rw [← HK1.out.1]; exact hlv), HK1.out.2]⟩
            case measure => have := HK1.out; simp [intOf] <;> omega
          | true =>
            go_wp2_with fail
            go_meet
            exact ⟨k, rfl, hk1, hk2, HK.out.symm.trans (scanSorted_stop wahead dk b k (Or.inr (by rw [← HK1.out.1]; exact hlv))), HRB3.out, HST3.out⟩
        · have hle1 : ¬ (k : Int) < (b : Int) := by omega
          go_wp2_with fail
          go_meet
          exact ⟨k, rfl, hk1, hk2, HK.out.symm.trans (scanSorted_stop wahead dk b k (Or.inl hle)), HRB.out, HST.out⟩
    case rest =>
      obtain ⟨k, rfl, hik, hkb, hK, hrb, hst⟩ := hcut
      have HK := Lib.hid hK
      clear HRB HST
      have HRB := Lib.hid hrb
      have HST := Lib.hid hst
      clear hK hrb hst
      by_cases hke : k = b
      · have HR2 := Lib.hid (show R = (dk, true) by rw [← HO.out]; exact pi_true wahead a b s i dk hs (HK.out.trans hke))
        have hke1 : (k : Int) = (b : Int) := by omega
        have hke2 : ((k : Int) == (b : Int)) = true := by simp [hke]
        clear hke
        go_wp2_with fail
        go_ret
        rw [HP.out, HR2.out]
        exact ⟨rfl, (Rb.of_ext HX.out).trans HRB.out, HST.out⟩
      have hke1 : ¬ (k : Int) = (b : Int) := by omega
      have hke2 : ((k : Int) == (b : Int)) = false := by simp [hke1]
      by_cases h50 : ba < 50
      · have h501 : (ba : Int) < 50 := by omega
        have HR2 := Lib.hid (show R = (dk, false) by rw [← HO.out]; exact pi_short wahead a b s i dk hs (by rw [HK.out]; exact hke) (by rw [← HBA.out]; exact h50))
        go_wp2_with fail
        go_ret
        rw [HP.out, HR2.out]
        exact ⟨rfl, (Rb.of_ext HX.out).trans HRB.out, HST.out⟩
      have h501 : ¬ (ba : Int) < 50 := by omega
      obtain ⟨k1, hk1n⟩ : ∃ x, x = k - 1 := ⟨_, rfl⟩
      obtain ⟨k2, hk2n⟩ : ∃ x, x = k + 1 := ⟨_, rfl⟩
      obtain ⟨ka, hka⟩ : ∃ x, x = k - a := ⟨_, rfl⟩
      obtain ⟨bk, hbk⟩ : ∃ x, x = b - k := ⟨_, rfl⟩
      have hwk : IntKind.i64.wrap ((k : Int) - 1) = (k1 : Int) := by rw [IntWalk.i64_in _ (by omega)]; omega
      have hwk2 : IntKind.i64.wrap ((k : Int) + 1) = (k2 : Int) := by rw [IntWalk.i64_in _ (by omega)]; omega
      have hwka : IntKind.i64.wrap ((k : Int) - (a : Int)) = (ka : Int) := by rw [IntWalk.i64_in _ (by omega)]; omega
      have hwbk : IntKind.i64.wrap ((b : Int) - (k : Int)) = (bk : Int) := by rw [IntWalk.i64_in _ (by omega)]; omega
      have HK1 := Lib.hid (show k1 = k - 1 ∧ k2 = k + 1 ∧ ka = k - a ∧ bk = b - k from ⟨hk1n, hk2n, hka, hbk⟩)
      have bx := HRB.out.blk HBX.out HNB.out
      have c1 := bx.cell (i := 1) rfl
      obtain ⟨w2, hrun, hkk, hstt⟩ := HS.out.swp HST.out (i := k) (j := k1) (by omega) (by omega)
      obtain ⟨d2, hd2⟩ : ∃ x, x = Go.Sort.swp dk k k1 := ⟨_, rfl⟩
      rw [← hd2] at hstt
      have HG2 := Lib.hid (show partialIns wahead a b (5 - s1) k (fixUp wahead b k (fixDown wahead a k d2)) = R by rw [← HO.out, HS1.out, hd2, hk1n]; exact (pi_go wahead a b s i k dk hs HK.out hke (by rw [← HBA.out]; exact h50)).symm)
      have HST2 := Lib.hid hstt
      have HRB2 := Lib.hid (HRB.out.trans hkk)
      clear bx hkk hstt hk1n hk2n hka hbk HO HK hd2
      go_upto_if 47 with fail
      clear hrun c1 HRB HST
      obtain ⟨d3, hd3⟩ : ∃ x, x = fixDown wahead a k d2 := ⟨_, rfl⟩
      rw [← hd3] at HG2
      have HD3 := Lib.hid hd3
      clear hd3
      go_cut [] (fun wc => Rb blk wb wc ∧ St w0 blk off n d3 wc)
      case first =>
        by_cases h2 : 2 ≤ ka
        · have h21 : (2 : Int) ≤ (ka : Int) := by omega
          have HF := Lib.hid (show d3 = shiftDown wahead k1 d2 by rw [HD3.out, HK1.out.1]; unfold fixDown; rw [if_pos (by have := HK1.out; omega)])
          go_wp2_with fail
          go_loopw [9] (fun vj wr => ∃ (j : Nat) (dj : Array Wr), vj = .int .i64 (j : Int) ∧ j ≤ k1 ∧ Rb blk wb wr ∧ St w0 blk off n dj wr ∧ shiftDown wahead j dj = d3) (fun vj _ => (intOf vj).toNat)
          case atStart => exact ⟨k1, d2, rfl, Nat.le_refl _, HRB2.out, HST2.out, HF.out.symm⟩
          case round =>
            clear HRB2 HST2 HF
            obtain ⟨j, dj, rfl, hjk, hrb, hst, hJ⟩ := hrel
            have HJ := Lib.hid hJ
            have HRB := Lib.hid hrb
            have HST := Lib.hid hst
            clear hJ hrb hst
            by_cases hj1 : 1 ≤ j
            · have hj11 : (1 : Int) ≤ (j : Int) := by omega
              obtain ⟨j1, hj1n⟩ : ∃ x, x = j - 1 := ⟨_, rfl⟩
              have hwj : IntKind.i64.wrap ((j : Int) - 1) = (j1 : Int) := by have := HK1.out; rw [IntWalk.i64_in _ (by omega)]; omega
              have HLE := Lib.hid (HS.out.le HST.out (i := j) (j := j1) (by have := HK1.out; omega) (by have := HK1.out; omega))
              have HJ1 := Lib.hid hj1n
              have c0 := (HRB.out.blk HBX.out HNB.out).cell (i := 0) rfl
              clear hj1n
              go_wp2_with fail
              refine HLE.out.mono ?_
              rintro e w3 ⟨rfl, hx3⟩
              have HST3 := Lib.hid (HST.out.ext HS.out hx3)
              have HRB3 := Lib.hid (HRB.out.trans (Rb.of_ext hx3))
              clear hx3 c0 HLE
              cases hlv : wahead dj[j]! dj[j1]! with
              | false =>
                go_wp2_with fail
                go_meet
                exact ⟨HRB3.out, by rw [← HJ.out, shiftDown_stop wahead j dj (Or.inr (by rw [← HJ1.out]; exact hlv))]; exact HST3.out⟩
              | true =>
                have bx := HRB3.out.blk HBX.out HNB.out
                have c1 := bx.cell (i := 1) rfl
                obtain ⟨w4, hrun, hk4, hst4⟩ := HS.out.swp HST3.out (i := j) (j := j1) (by have := HK1.out; omega) (by have := HK1.out; have := HJ1.out; omega)
                have HST4 := Lib.hid hst4
                have HRB4 := Lib.hid (HRB3.out.trans hk4)
                clear bx hk4 hst4
                go_wp2_with fail
                go_roundw
                case rel => exact ⟨j1, _, rfl, by have := HJ1.out; omega, HRB4.out, HST4.out, by rw [← HJ.out, shiftDown_go wahead j dj hj1 (by rw [← HJ1.out]; exact hlv), HJ1.out]⟩
                case measure => have := HJ1.out; simp [intOf] <;> omega
            · have hj11 : ¬ (1 : Int) ≤ (j : Int) := by omega
              go_wp2_with fail
              go_meet
              exact ⟨HRB.out, by rw [← HJ.out, shiftDown_stop wahead j dj (Or.inl (by omega))]; exact HST.out⟩
        · have h21 : ¬ (2 : Int) ≤ (ka : Int) := by omega
          have HF := Lib.hid (show d3 = d2 by rw [HD3.out]; unfold fixDown; rw [if_neg (by have := HK1.out; omega)])
          go_wp2_with fail
          go_meet
          rw [HF.out]
          exact ⟨HRB2.out, HST2.out⟩
      case rest =>
        obtain ⟨hrb, hst⟩ := hcut
        clear HRB2 HST2 HD3
        have HRB2 := Lib.hid hrb
        have HST2 := Lib.hid hst
        clear hrb hst
        go_upto_if 70 with fail
        obtain ⟨d4, hd4⟩ : ∃ x, x = fixUp wahead b k d3 := ⟨_, rfl⟩
        rw [← hd4] at HG2
        have HD4 := Lib.hid hd4
        clear hd4
        by_cases h2 : 2 ≤ bk
        · have h21 : (2 : Int) ≤ (bk : Int) := by omega
          have HF := Lib.hid (show d4 = shiftUp wahead b k2 d3 by rw [HD4.out, HK1.out.2.1]; unfold fixUp; rw [if_pos (by have := HK1.out; omega)])
          go_wp2_with fail
          go_loopw [10] (fun vj wr => ∃ (j : Nat) (dj : Array Wr), vj = .int .i64 (j : Int) ∧ k2 ≤ j ∧ j ≤ b ∧ Rb blk wb wr ∧ St w0 blk off n dj wr ∧ shiftUp wahead b j dj = d4) (fun vj _ => b + 1 - (intOf vj).toNat)
          case atStart => exact ⟨k2, d3, rfl, Nat.le_refl _, by have := HK1.out; omega, HRB2.out, HST2.out, HF.out.symm⟩
          case round =>
            clear HRB2 HST2 HF
            obtain ⟨j, dj, rfl, hjk, hjb, hrb, hst, hJ⟩ := hrel
            have HJ := Lib.hid hJ
            have HRB := Lib.hid hrb
            have HST := Lib.hid hst
            clear hJ hrb hst
            by_cases hj1 : j < b
            · have hj11 : (j : Int) < (b : Int) := by omega
              obtain ⟨j1, hj1n⟩ : ∃ x, x = j - 1 := ⟨_, rfl⟩
              obtain ⟨j2, hj2n⟩ : ∃ x, x = j + 1 := ⟨_, rfl⟩
              have hwj : IntKind.i64.wrap ((j : Int) - 1) = (j1 : Int) := by have := HK1.out; rw [IntWalk.i64_in _ (by omega)]; omega
              have hwj2 : IntKind.i64.wrap ((j : Int) + 1) = (j2 : Int) := by rw [IntWalk.i64_in _ (by omega)]; omega
              have HLE := Lib.hid (HS.out.le HST.out (i := j) (j := j1) (by have := HK1.out; omega) (by have := HK1.out; omega))
              have HJ1 := Lib.hid (And.intro hj1n hj2n)
              have c0 := (HRB.out.blk HBX.out HNB.out).cell (i := 0) rfl
              clear hj1n hj2n
              go_wp2_with fail
              refine HLE.out.mono ?_
              rintro e w3 ⟨rfl, hx3⟩
              have HST3 := Lib.hid (HST.out.ext HS.out hx3)
              have HRB3 := Lib.hid (HRB.out.trans (Rb.of_ext hx3))
              clear hx3 c0 HLE
              cases hlv : wahead dj[j]! dj[j1]! with
              | false =>
                go_wp2_with fail
                go_roundg (5 - s1)
                case measure => have := HG.out; have := HS1.out; omega
                case rel => exact ⟨k, s1, d4, rfl, rfl, rfl, by have := HS1.out; omega, by omega, hkb, HRB3.out, by rw [← HJ.out, shiftUp_stop wahead b j dj (Or.inr (by rw [← HJ1.out.1]; exact hlv))]; exact HST3.out, HG2.out⟩
              | true =>
                have bx := HRB3.out.blk HBX.out HNB.out
                have c1 := bx.cell (i := 1) rfl
                obtain ⟨w4, hrun, hk4, hst4⟩ := HS.out.swp HST3.out (i := j) (j := j1) (by omega) (by have := HJ1.out; omega)
                have HST4 := Lib.hid hst4
                have HRB4 := Lib.hid (HRB3.out.trans hk4)
                clear bx hk4 hst4
                go_wp2_with fail
                go_roundw
                case rel => exact ⟨j2, _, rfl, by have := HJ1.out; omega, by have := HJ1.out; omega, HRB4.out, HST4.out, by rw [← HJ.out, shiftUp_go wahead b j dj hj1 (by rw [← HJ1.out.1]; exact hlv), HJ1.out.1, HJ1.out.2]⟩
                case measure => have := HJ1.out; simp [intOf] <;> omega
            · have hj11 : ¬ (j : Int) < (b : Int) := by omega
              go_wp2_with fail
              go_roundg (5 - s1)
              case measure => have := HG.out; have := HS1.out; omega
              case rel => exact ⟨k, s1, d4, rfl, rfl, rfl, by have := HS1.out; omega, by omega, hkb, HRB.out, by rw [← HJ.out, shiftUp_stop wahead b j dj (Or.inl hj1)]; exact HST.out, HG2.out⟩
        · have h21 : ¬ (2 : Int) ≤ (bk : Int) := by omega
          have HF := Lib.hid (show d4 = d3 by rw [HD4.out]; unfold fixUp; rw [if_neg (by have := HK1.out; omega)])
          go_wp2_with fail
          go_roundg (5 - s1)
          case measure => have := HG.out; have := HS1.out; omega
          case rel => exact ⟨k, s1, d4, rfl, rfl, rfl, by have := HS1.out; omega, by omega, hkb, HRB2.out, by rw [HF.out]; exact HST2.out, HG2.out⟩
end Go.Proofs.Ytocdifjdeifclaa
