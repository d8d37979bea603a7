/-
  Layer 12: the sort's functions, over a 'less' that lays blocks: partition.
-/
import Derived.Test.YtocdifjdeifclaaSrt2
import Derived.Sort.WalkC4
import Derived.Deep.DeepCutAuto
import Derived.Deep.CutBlock
import Derived.Deep.LoopGhost
namespace Go.Proofs.Ytocdifjdeifclaa
open Go Go.RowKit Mono Go.Sort
set_option linter.unusedVariables false
set_option linter.unusedSimpArgs false
set_option maxRecDepth 100000
set_option maxHeartbeats 4000000
variable {w0 W W' : World} {ob sf : Nat} {sb : Array Value} {blk off n : Nat} {d d' : Array Wr}

theorem sPart_any (S : Srt w0 ob sf sb blk off n) (h : St w0 blk off n d W) {a b pv : Nat} (hap : a ≤ pv) (hpb : pv < b) (hb : b ≤ n) :
    Calls Try.prog 108 #[.agg #[.func (.func 63) #[] #[.pointer (some ⟨ob, 0, none⟩)], .func (.func sf) #[] sb], .int .i64 (a : Int), .int .i64 (b : Int), .int .i64 (pv : Int)] W
      fun e w' => e = .returned (.tuple #[.int .i64 ((partition wahead d a b pv).1 : Int), .bool (partition wahead d a b pv).2.1]) ∧ Rb blk W w' ∧ St w0 blk off n (partition wahead d a b pv).2.2 w' := by
  have hn := S.hn
  have HS := Lib.hid S
  have hx := ext_alloc W (.cells #[.func (.func 63) #[] #[.pointer (some ⟨ob, 0, none⟩)], .func (.func sf) #[] sb] 147)
  have HBX := Lib.hid (Blk.new W #[.func (.func 63) #[] #[.pointer (some ⟨ob, 0, none⟩)], .func (.func sf) #[] sb] 147)
  have HH := Lib.hid (h.ext S hx)
  have HX := Lib.hid hx
  have HNB := Lib.hid (show W.heap.size ≠ blk by have := h.lt S; omega)
  have HNL := Lib.hid (show W.heap.size < (W.alloc (.cells #[.func (.func 63) #[] #[.pointer (some ⟨ob, 0, none⟩)], .func (.func sf) #[] sb] 147)).heap.size by rw [World.size_alloc]; omega)
  have HLO := Lib.hid (show w0.heap.size ≤ W.heap.size from h.rb.size)
  have k0 := HBX.out.cell (i := 0) rfl
  have k1 := HBX.out.cell (i := 1) rfl
  clear hx h S
  go_enter Try.func108, Try.ntmps108
  go_wp2_with fail
  obtain ⟨nb, hnb⟩ : ∃ nb, nb = W.heap.size := ⟨_, rfl⟩
  obtain ⟨wb, hwb⟩ : ∃ wb, wb = W.alloc (.cells #[.func (.func 63) #[] #[.pointer (some ⟨ob, 0, none⟩)], .func (.func sf) #[] sb] 147) := ⟨_, rfl⟩
  rw [← hwb] at HBX HH HX HNL k0 k1 ⊢
  rw [← hnb] at HBX HNB HNL HLO k0 k1 ⊢
  clear hwb hnb
  obtain ⟨i0, hi0⟩ : ∃ x, x = a + 1 := ⟨_, rfl⟩
  obtain ⟨j0, hj0⟩ : ∃ x, x = b - 1 := ⟨_, rfl⟩
  have hw1 : IntKind.i64.wrap ((a : Int) + 1) = (i0 : Int) := by rw [IntWalk.i64_in _ (by omega)]; omega
  have hw2 : IntKind.i64.wrap ((b : Int) - 1) = (j0 : Int) := by rw [IntWalk.i64_in _ (by omega)]; omega
  have hai : a < i0 := by omega
  have hij : i0 ≤ j0 + 1 := by omega
  have hjb : j0 < b := by omega
  obtain ⟨w1, hrun, hk1, hst1⟩ := HS.out.swp HH.out (i := a) (j := pv) (by omega) (by omega)
  obtain ⟨d1, hd1⟩ : ∃ x, x = Go.Sort.swp d a pv := ⟨_, rfl⟩
  rw [← hd1] at hst1
  have HI0 := Lib.hid hi0
  have HJ0 := Lib.hid hj0
  have HD1 := Lib.hid hd1
  have HST1 := Lib.hid hst1
  have HRB1 := Lib.hid hk1
  clear hi0 hj0 hd1 hst1 hk1 HH
  rw [hrun]
  go_upto_block 0 with fail
  clear k0 k1 hrun
  go_cut [10] (fun sk wc => ∃ k : Nat, sk = .int .i64 (k : Int) ∧ i0 ≤ k ∧ k ≤ j0 + 1 ∧ k = scanUp (fun x => wahead x d1[a]!) d1 j0 i0 ∧ Rb blk wb wc ∧ St w0 blk off n d1 wc)
  case first =>
    go_wp2_with fail
    go_loopw [10] (fun vk wr => ∃ k : Nat, vk = .int .i64 (k : Int) ∧ i0 ≤ k ∧ k ≤ j0 + 1 ∧ Rb blk wb wr ∧ St w0 blk off n d1 wr ∧ scanUp (fun x => wahead x d1[a]!) d1 j0 k = scanUp (fun x => wahead x d1[a]!) d1 j0 i0) (fun vk _ => j0 + 1 - (intOf vk).toNat)
    case atStart => exact ⟨i0, rfl, by omega, by omega, HRB1.out, HST1.out, rfl⟩
    case round =>
      clear HRB1 HST1
      obtain ⟨k, rfl, hk1, hk2, hrb, hst, hO⟩ := hrel
      have HO := Lib.hid hO
      have HRB := Lib.hid hrb
      have HST := Lib.hid hst
      clear hO hrb hst
      by_cases hle : k ≤ j0
      · have hle1 : (k : Int) ≤ (j0 : Int) := by omega
        obtain ⟨k1, hk1n⟩ : ∃ x, x = k + 1 := ⟨_, rfl⟩
        have hwk : IntKind.i64.wrap ((k : Int) + 1) = (k1 : Int) := by rw [IntWalk.i64_in _ (by omega)]; omega
        have HK1 := Lib.hid hk1n
        have HLE := Lib.hid (HS.out.le HST.out (i := k) (j := a) (by omega) (by omega))
        have c0 := (HRB.out.blk HBX.out HNB.out).cell (i := 0) rfl
        clear hk1n
        go_wp2_with fail
        refine HLE.out.mono ?_
        rintro e w3 ⟨rfl, hx3⟩
        have HST3 := Lib.hid (HST.out.ext HS.out hx3)
        have HRB3 := Lib.hid (HRB.out.trans (Rb.of_ext hx3))
        clear hx3 c0 HLE
        cases hlv : wahead d1[k]! d1[a]! with
        | true =>
          go_wp2_with fail
          go_roundw
          case rel => exact ⟨k1, rfl, by have := HK1.out; omega, by have := HK1.out; omega, HRB3.out, HST3.out, by rw [← HO.out, scanUp_go (fun x => wahead x d1[a]!) d1 j0 k hle (by simp [hlv]), HK1.out]⟩
          case measure => have := HK1.out; simp [intOf] <;> omega
        | false =>
          go_wp2_with fail
          go_meet
          exact ⟨k, rfl, hk1, hk2, (HO.out.symm.trans (scanUp_end (fun x => wahead x d1[a]!) d1 j0 k (Or.inr (by simp [hlv])))).symm, HRB3.out, HST3.out⟩
      · have hle1 : ¬ (k : Int) ≤ (j0 : Int) := by omega
        go_wp2_with fail
        go_meet
        exact ⟨k, rfl, hk1, hk2, (HO.out.symm.trans (scanUp_end (fun x => wahead x d1[a]!) d1 j0 k (Or.inl hle))).symm, HRB.out, HST.out⟩
  case rest =>
    obtain ⟨i2, rfl, i2a, i2b, i2e, hrb, hst⟩ := hcut
    clear HRB1 HST1
    have Hi2 := Lib.hid i2e
    have HRB1 := Lib.hid hrb
    have HST1 := Lib.hid hst
    clear i2e hrb hst
    go_upto_block 2 with fail
    go_cut [11] (fun sk wc => ∃ k : Nat, sk = .int .i64 (k : Int) ∧ k ≤ j0 ∧ i2 ≤ k + 1 ∧ k = scanDown (fun x => !wahead x d1[a]!) d1 i2 j0 ∧ Rb blk wb wc ∧ St w0 blk off n d1 wc)
    case first =>
      go_wp2_with fail
      go_loopw [11] (fun vk wr => ∃ k : Nat, vk = .int .i64 (k : Int) ∧ k ≤ j0 ∧ i2 ≤ k + 1 ∧ Rb blk wb wr ∧ St w0 blk off n d1 wr ∧ scanDown (fun x => !wahead x d1[a]!) d1 i2 k = scanDown (fun x => !wahead x d1[a]!) d1 i2 j0) (fun vk _ => (intOf vk).toNat)
      case atStart => exact ⟨j0, rfl, by omega, by omega, HRB1.out, HST1.out, rfl⟩
      case round =>
        clear HRB1 HST1
        obtain ⟨k, rfl, hk1, hk2, hrb, hst, hO⟩ := hrel
        have HO := Lib.hid hO
        have HRB := Lib.hid hrb
        have HST := Lib.hid hst
        clear hO hrb hst
        by_cases hle : i2 ≤ k
        · have hle1 : (i2 : Int) ≤ (k : Int) := by omega
          obtain ⟨k1, hk1n⟩ : ∃ x, x = k - 1 := ⟨_, rfl⟩
          have hwk : IntKind.i64.wrap ((k : Int) - 1) = (k1 : Int) := by rw [IntWalk.i64_in _ (by omega)]; omega
          have HK1 := Lib.hid hk1n
          have HLE := Lib.hid (HS.out.le HST.out (i := k) (j := a) (by omega) (by omega))
          have c0 := (HRB.out.blk HBX.out HNB.out).cell (i := 0) rfl
          clear hk1n
          go_wp2_with fail
          refine HLE.out.mono ?_
          rintro e w3 ⟨rfl, hx3⟩
          have HST3 := Lib.hid (HST.out.ext HS.out hx3)
          have HRB3 := Lib.hid (HRB.out.trans (Rb.of_ext hx3))
          clear hx3 c0 HLE
          cases hlv : wahead d1[k]! d1[a]! with
          | false =>
            go_wp2_with fail
            go_roundw
            case rel => exact ⟨k1, rfl, by have := HK1.out; omega, by have := HK1.out; omega, HRB3.out, HST3.out, by rw [← HO.out, scanDown_go (fun x => !wahead x d1[a]!) d1 i2 k hle (by omega) (by simp [hlv]), HK1.out]⟩
            case measure => have := HK1.out; simp [intOf] <;> omega
          | true =>
            go_wp2_with fail
            go_meet
            exact ⟨k, rfl, hk1, hk2, (HO.out.symm.trans (scanDown_end (fun x => !wahead x d1[a]!) d1 i2 k (Or.inr (by simp [hlv])))).symm, HRB3.out, HST3.out⟩
        · have hle1 : ¬ (i2 : Int) ≤ (k : Int) := by omega
          go_wp2_with fail
          go_meet
          exact ⟨k, rfl, hk1, hk2, (HO.out.symm.trans (scanDown_end (fun x => !wahead x d1[a]!) d1 i2 k (Or.inl hle))).symm, HRB.out, HST.out⟩
    case rest =>
      obtain ⟨j2, rfl, j2a, j2b, j2e, hrb, hst⟩ := hcut
      clear HRB1 HST1
      have Hj2 := Lib.hid j2e
      have HRB1 := Lib.hid hrb
      have HST1 := Lib.hid hst
      clear j2e hrb hst
      have bx := HRB1.out.blk HBX.out HNB.out
      have c1 := bx.cell (i := 1) rfl
      clear bx
      by_cases hgt : j2 < i2
      · have hgt1 : (j2 : Int) < (i2 : Int) := by omega
        have HP := Lib.hid (part_first_break wahead d a b pv HI0.out HJ0.out HD1.out Hi2.out Hj2.out hgt)
        obtain ⟨w2, hrun, hk2, hst2⟩ := HS.out.swp HST1.out (i := j2) (j := a) (by omega) (by omega)
        have HST2 := Lib.hid hst2
        have HRB2 := Lib.hid (HRB1.out.trans hk2)
        clear hk2 hst2
        go_wp2_with fail
        go_ret2
        rw [HP.out]
        exact ⟨rfl, (Rb.of_ext HX.out).trans HRB2.out, HST2.out⟩
      have hgt1 : ¬ (j2 : Int) < (i2 : Int) := by omega
      have HLT := Lib.hid (part_scans_lt wahead a i0 j0 d1 (by omega) Hi2.out Hj2.out (by omega))
      have HP := Lib.hid (part_first_go wahead d a b pv HI0.out HJ0.out HD1.out Hi2.out Hj2.out (by omega))
      obtain ⟨w2, hrun, hk2, hst2⟩ := HS.out.swp HST1.out (i := i2) (j := j2) (by omega) (by omega)
      obtain ⟨R, hR⟩ : ∃ R, R = partLoop wahead a (i2 + 1) (j2 - 1) (Go.Sort.swp d1 i2 j2) := ⟨_, rfl⟩
      rw [← hR] at HP
      obtain ⟨d2, hd2⟩ : ∃ x, x = Go.Sort.swp d1 i2 j2 := ⟨_, rfl⟩
      rw [← hd2] at hR hst2
      obtain ⟨i3, hi3⟩ : ∃ x, x = i2 + 1 := ⟨_, rfl⟩
      obtain ⟨j3, hj3⟩ : ∃ x, x = j2 - 1 := ⟨_, rfl⟩
      rw [← hi3, ← hj3] at hR
      have hw3 : IntKind.i64.wrap ((i2 : Int) + 1) = (i3 : Int) := by rw [IntWalk.i64_in _ (by omega)]; omega
      have hw4 : IntKind.i64.wrap ((j2 : Int) - 1) = (j3 : Int) := by have := HLT.out; rw [IntWalk.i64_in _ (by omega)]; omega
      have HR := Lib.hid hR
      have HB := Lib.hid (show a < i3 ∧ i3 ≤ j3 + 1 ∧ j3 < b by have := HLT.out; omega)
      have HST2 := Lib.hid hst2
      have HRB2 := Lib.hid (HRB1.out.trans hk2)
      clear hR hi3 hj3 hd2 hst2 hk2
      go_wp2_with fail
      clear hrun c1 hgt hgt1 hw3 hw4 HLT Hi2 Hj2 HRB1 HST1 i2a i2b j2a j2b
      go_loopg [10, 11] (j3 + 1 - i3) (fun g vi vj wr => ∃ (i j : Nat) (dk : Array Wr), vi = .int .i64 (i : Int) ∧ vj = .int .i64 (j : Int) ∧ g = j + 1 - i ∧ a < i ∧ i ≤ j + 1 ∧ j < b ∧ Rb blk wb wr ∧ St w0 blk off n dk wr ∧ partLoop wahead a i j dk = R)
      case atStart => exact ⟨i3, j3, d2, rfl, rfl, rfl, HB.out.1, HB.out.2.1, HB.out.2.2, HRB2.out, HST2.out, HR.out.symm⟩
      case round =>
        clear HRB2 HST2 HR HB hai hij hjb
        obtain ⟨i0, j0, d1, rfl, rfl, hg, hai, hij, hjb, hrb, hst, hO⟩ := hrel
        have HO := Lib.hid hO
        have HRB1 := Lib.hid hrb
        have HST1 := Lib.hid hst
        have HG := Lib.hid hg
        clear hO hrb hst hg
        go_upto_block 6 with fail
        go_cut [10] (fun sk wc => ∃ k : Nat, sk = .int .i64 (k : Int) ∧ i0 ≤ k ∧ k ≤ j0 + 1 ∧ k = scanUp (fun x => wahead x d1[a]!) d1 j0 i0 ∧ Rb blk wb wc ∧ St w0 blk off n d1 wc)
        case first =>
          go_wp2_with fail
          go_loopw [10] (fun vk wr => ∃ k : Nat, vk = .int .i64 (k : Int) ∧ i0 ≤ k ∧ k ≤ j0 + 1 ∧ Rb blk wb wr ∧ St w0 blk off n d1 wr ∧ scanUp (fun x => wahead x d1[a]!) d1 j0 k = scanUp (fun x => wahead x d1[a]!) d1 j0 i0) (fun vk _ => j0 + 1 - (intOf vk).toNat)
          case atStart => exact ⟨i0, rfl, by omega, by omega, HRB1.out, HST1.out, rfl⟩
          case round =>
            clear HRB1 HST1
            obtain ⟨k, rfl, hk1, hk2, hrb, hst, hO⟩ := hrel
            have HO := Lib.hid hO
            have HRB := Lib.hid hrb
            have HST := Lib.hid hst
            clear hO hrb hst
            by_cases hle : k ≤ j0
            · have hle1 : (k : Int) ≤ (j0 : Int) := by omega
              obtain ⟨k1, hk1n⟩ : ∃ x, x = k + 1 := ⟨_, rfl⟩
              have hwk : IntKind.i64.wrap ((k : Int) + 1) = (k1 : Int) := by rw [IntWalk.i64_in _ (by omega)]; omega
              have HK1 := Lib.hid hk1n
              have HLE := Lib.hid (HS.out.le HST.out (i := k) (j := a) (by omega) (by omega))
              have c0 := (HRB.out.blk HBX.out HNB.out).cell (i := 0) rfl
              clear hk1n
              go_wp2_with fail
              refine HLE.out.mono ?_
              rintro e w3 ⟨rfl, hx3⟩
              have HST3 := Lib.hid (HST.out.ext HS.out hx3)
              have HRB3 := Lib.hid (HRB.out.trans (Rb.of_ext hx3))
              clear hx3 c0 HLE
              cases hlv : wahead d1[k]! d1[a]! with
              | true =>
                go_wp2_with fail
                go_roundw
                case rel => exact ⟨k1, rfl, by have := HK1.out; omega, by have := HK1.out; omega, HRB3.out, HST3.out, by rw [← HO.out, scanUp_go (fun x => wahead x d1[a]!) d1 j0 k hle (by simp [hlv]), HK1.out]⟩
                case measure => have := HK1.out; simp [intOf] <;> omega
              | false =>
                go_wp2_with fail
                go_meet
                exact ⟨k, rfl, hk1, hk2, (HO.out.symm.trans (scanUp_end (fun x => wahead x d1[a]!) d1 j0 k (Or.inr (by simp [hlv])))).symm, HRB3.out, HST3.out⟩
            · have hle1 : ¬ (k : Int) ≤ (j0 : Int) := by omega
              go_wp2_with fail
              go_meet
              exact ⟨k, rfl, hk1, hk2, (HO.out.symm.trans (scanUp_end (fun x => wahead x d1[a]!) d1 j0 k (Or.inl hle))).symm, HRB.out, HST.out⟩
        case rest =>
          obtain ⟨i2, rfl, i2a, i2b, i2e, hrb, hst⟩ := hcut
          clear HRB1 HST1
          have Hi2 := Lib.hid i2e
          have HRB1 := Lib.hid hrb
          have HST1 := Lib.hid hst
          clear i2e hrb hst
          go_upto_block 8 with fail
          go_cut [11] (fun sk wc => ∃ k : Nat, sk = .int .i64 (k : Int) ∧ k ≤ j0 ∧ i2 ≤ k + 1 ∧ k = scanDown (fun x => !wahead x d1[a]!) d1 i2 j0 ∧ Rb blk wb wc ∧ St w0 blk off n d1 wc)
          case first =>
            go_wp2_with fail
            go_loopw [11] (fun vk wr => ∃ k : Nat, vk = .int .i64 (k : Int) ∧ k ≤ j0 ∧ i2 ≤ k + 1 ∧ Rb blk wb wr ∧ St w0 blk off n d1 wr ∧ scanDown (fun x => !wahead x d1[a]!) d1 i2 k = scanDown (fun x => !wahead x d1[a]!) d1 i2 j0) (fun vk _ => (intOf vk).toNat)
            case atStart => exact ⟨j0, rfl, by omega, by omega, HRB1.out, HST1.out, rfl⟩
            case round =>
              clear HRB1 HST1
              obtain ⟨k, rfl, hk1, hk2, hrb, hst, hO⟩ := hrel
              have HO := Lib.hid hO
              have HRB := Lib.hid hrb
              have HST := Lib.hid hst
              clear hO hrb hst
              by_cases hle : i2 ≤ k
              · have hle1 : (i2 : Int) ≤ (k : Int) := by omega
                obtain ⟨k1, hk1n⟩ : ∃ x, x = k - 1 := ⟨_, rfl⟩
                have hwk : IntKind.i64.wrap ((k : Int) - 1) = (k1 : Int) := by rw [IntWalk.i64_in _ (by omega)]; omega
                have HK1 := Lib.hid hk1n
                have HLE := Lib.hid (HS.out.le HST.out (i := k) (j := a) (by omega) (by omega))
                have c0 := (HRB.out.blk HBX.out HNB.out).cell (i := 0) rfl
                clear hk1n
                go_wp2_with fail
                refine HLE.out.mono ?_
                rintro e w3 ⟨rfl, hx3⟩
                have HST3 := Lib.hid (HST.out.ext HS.out hx3)
                have HRB3 := Lib.hid (HRB.out.trans (Rb.of_ext hx3))
                clear hx3 c0 HLE
                cases hlv : wahead d1[k]! d1[a]! with
                | false =>
                  go_wp2_with fail
                  go_roundw
                  case rel => exact ⟨k1, rfl, by have := HK1.out; omega, by have := HK1.out; omega, HRB3.out, HST3.out, by rw [← HO.out, scanDown_go (fun x => !wahead x d1[a]!) d1 i2 k hle (by omega) (by simp [hlv]), HK1.out]⟩
                  case measure => have := HK1.out; simp [intOf] <;> omega
                | true =>
                  go_wp2_with fail
                  go_meet
                  exact ⟨k, rfl, hk1, hk2, (HO.out.symm.trans (scanDown_end (fun x => !wahead x d1[a]!) d1 i2 k (Or.inr (by simp [hlv])))).symm, HRB3.out, HST3.out⟩
              · have hle1 : ¬ (i2 : Int) ≤ (k : Int) := by omega
                go_wp2_with fail
                go_meet
                exact ⟨k, rfl, hk1, hk2, (HO.out.symm.trans (scanDown_end (fun x => !wahead x d1[a]!) d1 i2 k (Or.inl hle))).symm, HRB.out, HST.out⟩
          case rest =>
            obtain ⟨j2, rfl, j2a, j2b, j2e, hrb, hst⟩ := hcut
            clear HRB1 HST1
            have Hj2 := Lib.hid j2e
            have HRB1 := Lib.hid hrb
            have HST1 := Lib.hid hst
            clear j2e hrb hst
            have bx := HRB1.out.blk HBX.out HNB.out
            have c1 := bx.cell (i := 1) rfl
            clear bx
            by_cases hgt : j2 < i2
            · have hgt1 : (j2 : Int) < (i2 : Int) := by omega
              have HR2 := Lib.hid (HO.out.symm.trans (part_break wahead a i0 j0 d1 Hi2.out Hj2.out hgt))
              obtain ⟨w2, hrun, hk2, hst2⟩ := HS.out.swp HST1.out (i := j2) (j := a) (by omega) (by omega)
              have HST2 := Lib.hid hst2
              have HRB2 := Lib.hid (HRB1.out.trans hk2)
              clear hk2 hst2
              go_wp2_with fail
              go_ret2
              rw [HP.out, HR2.out]
              exact ⟨rfl, (Rb.of_ext HX.out).trans HRB2.out, HST2.out⟩
            have hgt1 : ¬ (j2 : Int) < (i2 : Int) := by omega
            have HLT := Lib.hid (part_scans_lt wahead a i0 j0 d1 (by omega) Hi2.out Hj2.out (by omega))
            have HG2 := Lib.hid (HO.out.symm.trans (part_go wahead a i0 j0 d1 Hi2.out Hj2.out (by omega)))
            obtain ⟨w2, hrun, hk2, hst2⟩ := HS.out.swp HST1.out (i := i2) (j := j2) (by omega) (by omega)
            obtain ⟨i3, hi3⟩ : ∃ x, x = i2 + 1 := ⟨_, rfl⟩
            obtain ⟨j3, hj3⟩ : ∃ x, x = j2 - 1 := ⟨_, rfl⟩
            rw [← hi3, ← hj3] at HG2
            have hw3 : IntKind.i64.wrap ((i2 : Int) + 1) = (i3 : Int) := by rw [IntWalk.i64_in _ (by omega)]; omega
            have hw4 : IntKind.i64.wrap ((j2 : Int) - 1) = (j3 : Int) := by have := HLT.out; rw [IntWalk.i64_in _ (by omega)]; omega
            have HB := Lib.hid (show a < i3 ∧ i3 ≤ j3 + 1 ∧ j3 < b ∧ j3 + 1 - i3 < j0 + 1 - i0 by have := HLT.out; omega)
            have HST2 := Lib.hid hst2
            have HRB2 := Lib.hid (HRB1.out.trans hk2)
            clear hi3 hj3 hst2 hk2
            go_wp2_with fail
            go_roundg (j3 + 1 - i3)
            case measure => have := HB.out; have := HG.out; omega
            case rel => exact ⟨i3, j3, _, rfl, rfl, rfl, HB.out.1, HB.out.2.1, HB.out.2.2.1, HRB2.out, HST2.out, HG2.out.symm⟩
end Go.Proofs.Ytocdifjdeifclaa
