/-
  The walks of layer 2: what crc.bytes, More, Sum, Right, Fix, Join and the document's own compute.
-/
import Derived.Test.YtakgmoejgcaopaaMem
import Derived.Test.YtakgmoejgcaopaaCrcPlain
import Derived.Test.YtakgmoejgcaopaaRows
import Derived.Outline
namespace Go.Proofs.Ytakgmoejgcaopaa
open Go.RowKit Mono Crc

theorem u32_ext {a b : Nat} (h : a = b) : Value.int .u32 (a : Int) = .int .u32 (b : Int) := by rw [h]

set_option maxHeartbeats 400000 in
theorem crcbytes_any (x : BitVec 32) (v : Value) (l : List UInt8) (w : World) (hv : Bs w v l) :
    Calls Try.prog 19 #[.int .u32 (x.toNat : Int), v] w fun e w' => e = .returned (.int .u32 ((crcB x l).toNat : Int)) ∧ w = w' := by
  obtain ⟨A, c, rfl, h1, h2, _, h4⟩ := hv.open_
  unfold maxLen at h2
  have hx := x.isLt
  go_enter Try.func19, Try.ntmps19
  go_wp2
  go_loop [0, 6, 9, 18] (fun r _ i _ => ∃ k : Nat, k ≤ l.length ∧ i = .int .i64 k ∧ r = .int .u32 ((crcB x (l.take k)).toNat : Int)) (fun _ _ i _ => l.length - (intOf i).toNat)
  case atStart => exact ⟨0, Nat.zero_le _, rfl, by simp [crcB_nil]⟩
  case round =>
    obtain ⟨k, hk, rfl, rfl⟩ := hrel
    by_cases hlt : k < l.length
    · obtain ⟨b, off, rfl, hb, hc⟩ := h4 (by omega)
      have hck := hc k l[k] (List.getElem?_eq_getElem hlt)
      have hb8 : l[k].toNat < 256 := l[k].toNat_lt
      have hs := crcB_snoc x l k hlt
      have HS := Lib.hid hs
      clear hs hc h4
      generalize l[k] = y at *
      generalize crcB x (l.take k) = r at *
      have hr := r.isLt
      go_wp2
      rw [up_int]
      go_loop [0, 18] (fun s i => ∃ (j : Nat), j ≤ 8 ∧ i = .int .i64 j ∧ s = .int .u32 ((stN j (r ^^^ up y)).toNat : Int)) (fun _ i => 8 - (intOf i).toNat)
      case atStart => exact ⟨0, by omega, rfl, rfl⟩
      case round =>
        obtain ⟨j, hj, rfl, rfl⟩ := hrel
        by_cases hlt : j < 8
        · have HT := Lib.hid (show st (stN j (r ^^^ up y)) = stN (j + 1) (r ^^^ up y) from rfl)
          generalize stN j (r ^^^ up y) = z at *
          have hz := z.isLt
          go_wp2
          go_round
          case rel => exact ⟨j + 1, by omega, by go_num, by rw [st_int, HT.out]⟩
          case measure => simp [intOf]; omega
        · have hj8 : j = 8 := by omega
          subst hj8
          go_wp2
          go_round
          case rel => exact ⟨k + 1, by omega, by go_num, by rw [HS.out]⟩
          case measure => simp [intOf]; omega
    · go_wp2
      go_ret
      exact ⟨by rw [List.take_of_length_le (by omega)]; rfl, rfl⟩
set_option maxHeartbeats 400000 in
theorem crcMore_any (x : BitVec 32) (v : Value) (l : List UInt8) (w : World) (hv : Bs w v l) :
    Calls Try.prog 11 #[.int .u32 (x.toNat : Int), v] w fun e w' => e = .returned (.int .u32 ((more x l).toNat : Int)) ∧ w = w' := by
  have hx := x.isLt
  go_enter Try.func11, Try.ntmps11
  go_wp2_with fail
  rw [not_int]
  refine (crcbytes_any (~~~ x) v l w hv).mono ?_
  rintro e w' ⟨rfl, rfl⟩
  go_wp2_with fail
  rw [not_int]
  go_ret
  exact ⟨rfl, rfl⟩

set_option maxHeartbeats 400000 in
theorem crcSum_any (v : Value) (l : List UInt8) (w : World) (hv : Bs w v l) :
    Calls Try.prog 9 #[v] w fun e w' => e = .returned (.int .u32 ((sum l).toNat : Int)) ∧ w = w' := by
  go_enter Try.func9, Try.ntmps9
  go_wp2_with fail
  refine (crcMore_any 0#32 v l w hv).mono ?_
  rintro e w' ⟨rfl, rfl⟩
  rw [sum_more]
  go_wp2_with fail
  go_ret
  exact ⟨rfl, rfl⟩

set_option maxHeartbeats 400000 in
theorem refbit_any (x : BitVec 32) (b : Int) (p : Bool) (hb : b = if p then 1 else 0) (w : World) :
    Calls Try.prog 21 #[.int .u32 (x.toNat : Int), .int .u32 b] w fun e w' => e = .returned (.int .u32 ((bitr x p).toNat : Int)) ∧ w = w' := by
  have hx := x.isLt
  by_cases h : (x.toNat : Int) / 2147483648 = b
  · have HB := Lib.hid (bitr_same x b p hb h)
    have hm : ((x.toNat : Int) / 2147483648 != b) = false := by rw [h]; simp
    clear hb h
    go_enter Try.func21, Try.ntmps21
    go_wp2
    go_ret
    exact ⟨by rw [← HB.out]; rfl, rfl⟩
  · have HB := Lib.hid (bitr_other x b p hb h)
    have hm : ((x.toNat : Int) / 2147483648 != b) = true := by rw [bne_iff_ne]; exact h
    clear hb h
    go_enter Try.func21, Try.ntmps21
    go_wp2
    go_ret
    exact ⟨by rw [← HB.out]; rfl, rfl⟩

set_option maxHeartbeats 400000 in
theorem refcomes_any (x : BitVec 32) (v : Value) (l : List UInt8) (w : World) (hv : Bs w v l) :
    Calls Try.prog 18 #[.int .u32 (x.toNat : Int), v] w fun e w' => e = .returned (.int .u32 ((refB x l).toNat : Int)) ∧ w = w' := by
  obtain ⟨A, c, rfl, h1, h2, _, h4⟩ := hv.open_
  unfold maxLen at h2
  have hx := x.isLt
  go_enter Try.func18, Try.ntmps18
  go_wp2
  go_loop [0, 5, 6] (fun r i _ => ∃ k : Nat, k ≤ l.length ∧ i = .int .i64 k ∧ r = .int .u32 ((refB x (l.take k)).toNat : Int)) (fun _ i _ => l.length - (intOf i).toNat)
  case atStart => exact ⟨0, Nat.zero_le _, rfl, by simp [refB]⟩
  case round =>
    obtain ⟨k, hk, rfl, rfl⟩ := hrel
    by_cases hlt : k < l.length
    · obtain ⟨b, off, rfl, hb, hc⟩ := h4 (by omega)
      have hck := hc k l[k] (List.getElem?_eq_getElem hlt)
      have hb8 : l[k].toNat < 256 := l[k].toNat_lt
      have HS := Lib.hid (refB_snoc x l k hlt)
      clear hc h4
      generalize l[k] = y at *
      generalize refB x (l.take k) = r at *
      have hr := r.isLt
      go_wp2
      go_loop [0, 6] (fun s i => ∃ (j : Nat), j ≤ 8 ∧ i = .int .i64 ((7 : Int) - (j : Int)) ∧ s = .int .u32 ((bitsB r y j).toNat : Int)) (fun _ i => (intOf i + 1).toNat)
      case atStart => exact ⟨0, by omega, rfl, rfl⟩
      case round =>
        obtain ⟨j, hj, rfl, rfl⟩ := hrel
        by_cases hlt : j < 8
        · have HT := Lib.hid (show bitr (bitsB r y j) (y.toNat.testBit (7 - j)) = bitsB r y (j + 1) from rfl)
          generalize bitsB r y j = z at *
          have hz := z.isLt
          have h7 : 0 ≤ (7 : Int) - (j : Int) := by omega
          go_wp2_with fail
          rw [bitAt_int]
          refine (refbit_any z (bitAt y (7 - j)) (y.toNat.testBit (7 - j)) rfl w).mono ?_
          rintro e w' ⟨rfl, rfl⟩
          rw [HT.out]
          go_wp2
          go_round
          case rel => exact ⟨j + 1, by omega, by go_num, rfl⟩
          case measure => simp [intOf]; omega
        · have hj8 : j = 8 := by omega
          subst hj8
          go_wp2
          go_round
          case rel => exact ⟨k + 1, by omega, by go_num, by rw [HS.out]⟩
          case measure => simp [intOf]; omega
    · go_wp2
      go_ret
      exact ⟨by rw [List.take_of_length_le (by omega)]; rfl, rfl⟩

set_option maxHeartbeats 400000 in
theorem refMore_any (x : BitVec 32) (v : Value) (l : List UInt8) (w : World) (hv : Bs w v l) :
    Calls Try.prog 12 #[.int .u32 (x.toNat : Int), v] w fun e w' => e = .returned (.int .u32 ((more x l).toNat : Int)) ∧ w = w' := by
  have hx := x.isLt
  go_enter Try.func12, Try.ntmps12
  go_wp2_with fail
  rw [not_int]
  refine (refcomes_any (~~~ x) v l w hv).mono ?_
  rintro e w' ⟨rfl, rfl⟩
  rw [← crcB_eq]
  go_wp2_with fail
  rw [not_int]
  go_ret
  exact ⟨rfl, rfl⟩

set_option maxHeartbeats 400000 in
theorem refSum_any (v : Value) (l : List UInt8) (w : World) (hv : Bs w v l) :
    Calls Try.prog 10 #[v] w fun e w' => e = .returned (.int .u32 ((sum l).toNat : Int)) ∧ w = w' := by
  go_enter Try.func10, Try.ntmps10
  go_wp2_with fail
  refine (refcomes_any (BitVec.allOnes 32) v l w hv).mono ?_
  rintro e w' ⟨rfl, rfl⟩
  rw [← crcB_eq]
  go_wp2_with fail
  rw [not_int]
  go_ret
  exact ⟨rfl, rfl⟩
end Go.Proofs.Ytakgmoejgcaopaa
