/-
  Layer 19: the number of a note's name.
-/
import Derived.Test.YtacabcpjaadijaaDoorChPlain
namespace Go.Proofs.YtacabcpjaadijaaDoor
open Go Go.RowKit Mono Num
set_option linter.unusedVariables false
set_option linter.unusedSimpArgs false
set_option maxRecDepth 100000

def digs : List UInt8 → Nat → Option Nat
  | [], n => some n
  | b :: r, n => if b.toNat < 48 ∨ 57 < b.toNat then none else digs r (10 * n + (b.toNat - 48))
/-- The number of a note's name. -/
def pnumber (l : List UInt8) : Int :=
  if l.length ≠ 14 then 0 else if (l.getD 0 0).toNat ≠ 111 then 0 else match digs (l.drop 1) 0 with
    | none => 0
    | some n => if 1099511627776 < n then 0 else (n : Int)
theorem str_at (l : List UInt8) (i : Nat) (h : i < ({ data := l.toArray } : ByteArray).size) : ({ data := l.toArray } : ByteArray)[i]'h = l.getD i 0 := by
  show l.toArray[i] = _
  have hi : i < l.length := by simpa [ByteArray.size] using h
  rw [List.getElem_toArray, List.getD_eq_getElem?_getD, List.getElem?_eq_getElem hi]
  rfl
theorem digs_step (l : List UInt8) (i n : Nat) (h : i < l.length) : digs (l.drop i) n = if (l.getD i 0).toNat < 48 ∨ 57 < (l.getD i 0).toNat then none else digs (l.drop (i + 1)) (10 * n + ((l.getD i 0).toNat - 48)) := by
  rw [List.drop_eq_getElem_cons h, digs, List.getD_eq_getElem?_getD, List.getElem?_eq_getElem h]
  rfl
theorem pow_step {i n d : Nat} (h : n < 10 ^ i) (hd : d ≤ 9) : 10 * n + d < 10 ^ (i + 1) := by
  rw [Nat.pow_succ]
  omega


set_option maxHeartbeats 4000000 in
theorem capNumber_any (l : List UInt8) (w : World) (hl : l.length ≤ 9223372036854775807) :
    Calls Tryd.prog 17 #[strV l] w fun e w' => e = .returned (.int .i64 (pnumber l)) ∧ w = w' := by
  have hs : ({ data := l.toArray } : ByteArray).size = l.length := by simp [ByteArray.size]
  have HSA := Lib.hid (str_at l)
  unfold strV
  go_enter Tryd.func17, Tryd.ntmps17
  by_cases h14 : l.length = 14
  · have h0 : 0 < ({ data := l.toArray } : ByteArray).size := by omega
    have e0 := HSA.out 0 h0
    have HB0 := Lib.hid (UInt8.toNat_lt (l.getD 0 0))
    by_cases ho : (l.getD 0 0).toNat = 111
    · have ho' : (({ data := l.toArray } : ByteArray)[0]'h0).toNat = 111 := by rw [e0]; exact ho
      clear e0
      have HP := Lib.hid (show pnumber l = match digs (l.drop 1) 0 with | none => 0 | some n => if 1099511627776 < n then 0 else (n : Int) by unfold pnumber; rw [if_neg (by omega), if_neg (by omega)])
      go_wp2_with fail
      go_loopw [3, 4] (fun nv iv wr => ∃ i n : Nat, 1 ≤ i ∧ i ≤ 14 ∧ iv = .int .i64 i ∧ nv = .int .i64 n ∧ digs (l.drop 1) 0 = digs (l.drop i) n ∧ n < 10 ^ (i - 1) ∧ w = wr) (fun _ iv _ => 14 - (intOf iv).toNat)
      case atStart => exact ⟨1, 0, by decide, by decide, rfl, rfl, rfl, by decide, rfl⟩
      case round =>
        obtain ⟨i, n, h1, h2, rfl, rfl, hd, hn, rfl⟩ := hrel
        have hp : 10 ^ (i - 1) ≤ 10 ^ 13 := Nat.pow_le_pow_right (by decide) (by omega)
        have hn13 : n < 10000000000000 := Nat.lt_of_lt_of_le hn hp
        have HN := Lib.hid hn
        have HD := Lib.hid hd
        clear hn hp hd ho'
        by_cases hlt : i < 14
        · have hi : i < ({ data := l.toArray } : ByteArray).size := by omega
          have ei := HSA.out i hi
          have hstep := digs_step l i n (by omega)
          have hb := UInt8.toNat_lt (l.getD i 0)
          have eq : (({ data := l.toArray } : ByteArray)[i]'hi).toNat = (l.getD i 0).toNat := by rw [ei]
          clear ei
          generalize (l.getD i 0).toNat = c at *
          have HS := Lib.hid hstep
          clear hstep
          by_cases hc1 : c < 48
          · have HF := Lib.hid (show pnumber l = 0 by rw [HP.out, HD.out, HS.out, if_pos (.inl hc1)])
            go_wp2_with fail
            go_ret
            exact ⟨(by rw [HF.out]; rfl), rfl⟩
          by_cases hc2 : 57 < c
          · have HF := Lib.hid (show pnumber l = 0 by rw [HP.out, HD.out, HS.out, if_pos (.inr hc2)])
            go_wp2_with fail
            go_ret
            exact ⟨(by rw [HF.out]; rfl), rfl⟩
          go_wp2_with fail
          go_roundw
          case rel => exact ⟨i + 1, 10 * n + (c - 48), by omega, by omega, by simp, by congr 1; omega, by rw [HD.out, HS.out, if_neg (by omega)], by have := pow_step HN.out (show c - 48 ≤ 9 by omega); rwa [show i - 1 + 1 = i + 1 - 1 by omega] at this, by first | rfl | trivial⟩
          case measure => simp [intOf]; omega
        · have hdr : digs (l.drop i) n = some n := by rw [List.drop_eq_nil_of_le (by omega)]; rfl
          have HF := Lib.hid (show pnumber l = if 1099511627776 < n then 0 else (n : Int) by rw [HP.out, HD.out, hdr])
          clear hdr
          by_cases hm : 1099511627776 < n
          · go_wp2_with fail
            go_ret
            exact ⟨(by rw [HF.out, if_pos hm]; rfl), rfl⟩
          · go_wp2_with fail
            go_ret
            exact ⟨(by rw [HF.out, if_neg hm]; rfl), rfl⟩
    · have ho' : (({ data := l.toArray } : ByteArray)[0]'h0).toNat = (l.getD 0 0).toNat := by rw [e0]
      have HP := Lib.hid (show pnumber l = 0 by unfold pnumber; rw [if_neg (by omega), if_pos ho])
      clear e0
      generalize (l.getD 0 0).toNat = c at *
      go_wp2_with fail
      go_ret
      exact ⟨(by rw [HP.out]; rfl), rfl⟩
  · have HP := Lib.hid (show pnumber l = 0 by unfold pnumber; rw [if_pos h14])
    go_wp2_with fail
    go_ret
    exact ⟨(by rw [HP.out]; rfl), rfl⟩


set_option maxHeartbeats 4000000 in
theorem refNumber_any (l : List UInt8) (w : World) (hl : l.length ≤ 9223372036854775807) :
    Calls Tryd.prog 18 #[strV l] w fun e w' => e = .returned (.int .i64 (pnumber l)) ∧ w = w' := by
  have hs : ({ data := l.toArray } : ByteArray).size = l.length := by simp [ByteArray.size]
  have HSA := Lib.hid (str_at l)
  unfold strV
  go_enter Tryd.func18, Tryd.ntmps18
  by_cases h14 : l.length = 14
  · have h0 : 0 < ({ data := l.toArray } : ByteArray).size := by omega
    have e0 := HSA.out 0 h0
    have HB0 := Lib.hid (UInt8.toNat_lt (l.getD 0 0))
    by_cases ho : (l.getD 0 0).toNat = 111
    · have ho' : (({ data := l.toArray } : ByteArray)[0]'h0).toNat = 111 := by rw [e0]; exact ho
      clear e0
      have HP := Lib.hid (show pnumber l = match digs (l.drop 1) 0 with | none => 0 | some n => if 1099511627776 < n then 0 else (n : Int) by unfold pnumber; rw [if_neg (by omega), if_neg (by omega)])
      go_wp2_with fail
      go_loopw [3, 4] (fun nv iv wr => ∃ i n : Nat, 1 ≤ i ∧ i ≤ 14 ∧ iv = .int .i64 i ∧ nv = .int .i64 n ∧ digs (l.drop 1) 0 = digs (l.drop i) n ∧ n < 10 ^ (i - 1) ∧ w = wr) (fun _ iv _ => 14 - (intOf iv).toNat)
      case atStart => exact ⟨1, 0, by decide, by decide, rfl, rfl, rfl, by decide, rfl⟩
      case round =>
        obtain ⟨i, n, h1, h2, rfl, rfl, hd, hn, rfl⟩ := hrel
        have hp : 10 ^ (i - 1) ≤ 10 ^ 13 := Nat.pow_le_pow_right (by decide) (by omega)
        have hn13 : n < 10000000000000 := Nat.lt_of_lt_of_le hn hp
        have HN := Lib.hid hn
        have HD := Lib.hid hd
        clear hn hp hd ho'
        by_cases hlt : i < 14
        · have hi : i < ({ data := l.toArray } : ByteArray).size := by omega
          have ei := HSA.out i hi
          have hstep := digs_step l i n (by omega)
          have hb := UInt8.toNat_lt (l.getD i 0)
          have eq : (({ data := l.toArray } : ByteArray)[i]'hi).toNat = (l.getD i 0).toNat := by rw [ei]
          clear ei
          generalize (l.getD i 0).toNat = c at *
          have HS := Lib.hid hstep
          clear hstep
          by_cases hc1 : c < 48
          · have HF := Lib.hid (show pnumber l = 0 by rw [HP.out, HD.out, HS.out, if_pos (.inl hc1)])
            go_wp2_with fail
            go_ret
            exact ⟨(by rw [HF.out]; rfl), rfl⟩
          by_cases hc2 : 57 < c
          · have HF := Lib.hid (show pnumber l = 0 by rw [HP.out, HD.out, HS.out, if_pos (.inr hc2)])
            go_wp2_with fail
            go_ret
            exact ⟨(by rw [HF.out]; rfl), rfl⟩
          go_wp2_with fail
          go_roundw
          case rel => exact ⟨i + 1, 10 * n + (c - 48), by omega, by omega, by simp, by congr 1; omega, by rw [HD.out, HS.out, if_neg (by omega)], by have := pow_step HN.out (show c - 48 ≤ 9 by omega); rwa [show i - 1 + 1 = i + 1 - 1 by omega] at this, by first | rfl | trivial⟩
          case measure => simp [intOf]; omega
        · have hdr : digs (l.drop i) n = some n := by rw [List.drop_eq_nil_of_le (by omega)]; rfl
          have HF := Lib.hid (show pnumber l = if 1099511627776 < n then 0 else (n : Int) by rw [HP.out, HD.out, hdr])
          clear hdr
          by_cases hm : 1099511627776 < n
          · go_wp2_with fail
            go_ret
            exact ⟨(by rw [HF.out, if_pos hm]; rfl), rfl⟩
          · go_wp2_with fail
            go_ret
            exact ⟨(by rw [HF.out, if_neg hm]; rfl), rfl⟩
    · have ho' : (({ data := l.toArray } : ByteArray)[0]'h0).toNat = (l.getD 0 0).toNat := by rw [e0]
      have HP := Lib.hid (show pnumber l = 0 by unfold pnumber; rw [if_neg (by omega), if_pos ho])
      clear e0
      generalize (l.getD 0 0).toNat = c at *
      go_wp2_with fail
      go_ret
      exact ⟨(by rw [HP.out]; rfl), rfl⟩
  · have HP := Lib.hid (show pnumber l = 0 by unfold pnumber; rw [if_pos h14])
    go_wp2_with fail
    go_ret
    exact ⟨(by rw [HP.out]; rfl), rfl⟩

end Go.Proofs.YtacabcpjaadijaaDoor
