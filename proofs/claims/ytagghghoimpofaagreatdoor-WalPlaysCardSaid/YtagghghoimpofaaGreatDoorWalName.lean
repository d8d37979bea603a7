/-
 Layer 16: a segment's name and its number: the program's.
-/
import Derived.Test.YtagghghoimpofaaGreatDoorWalPlain
import Derived.Test.YtagghghoimpofaaGreatDoorWalShelf
import Derived.Lib.SmallJoins
import Derived.Lib.ItoaMem
import Derived.Sort.Grow
namespace Go.Proofs.YtagghghoimpofaaGreatDoor
open Go Go.RowKit Mono Num
open Go.Lib (decDigits)
set_option linter.unusedVariables false
set_option linter.unusedSimpArgs false
set_option maxRecDepth 100000

theorem var_extW {P : Program} {w w' : World} {nm : String} {cs : Array Value} (h : w.var? P nm = some cs) (x : Ext w w') : w'.var? P nm = some cs := by
 unfold World.var? at h ⊢
 cases hg : P.globalNamed nm with
 | none => rw [hg] at h; cases h
 | some g =>
  rw [hg] at h
  simp only [Option.bind_some] at h ⊢
  have hlt : g < w.heap.size := by
   rcases Nat.lt_or_ge g w.heap.size with k | k
   ·exact k
   ·rw [Array.getElem?_eq_none k] at h; cases h
  rw [x.block g hlt]
  exact h
/-- The table of powers holds what the program's text lays. -/
def TbW (w : World) : Prop := Lib.TabIs Tryz.prog w "internal/strconv.uint64pow10" .u64 Lib.pow10Tab
theorem TbW.ext {w w' : World} (h : TbW w) (x : Ext w w') : TbW w' := var_extW h x
theorem ext_growW (w : World) (k : Nat) (os : Array Obj) : Ext w (Go.Sort.grow (w.drewN k) os) :=
 ⟨rfl, rfl, rfl, by simp [Go.Sort.grow, World.drewN], fun j hj => by
  show ((w.drewN k).heap ++ os)[j]? = w.heap[j]?
  have e : (w.drewN k).heap = w.heap := rfl
  rw [e, Array.getElem?_append_left hj]⟩
theorem itoaW_any (n : Nat) (w : World) (hn : n ≤ 281474976710656) (ht : TbW w) :
  Calls Tryz.prog 77 #[.int .i64 (n : Int)] w fun e w' => e = .returned (strV (decDigits n)) ∧ Ext w w' := by
 refine (Tryz.strconv_Itoa (n : Int) (by omega) (by omega) w ht).mono ?_
 rintro e w' ⟨rfl, k, os, rfl⟩
 rw [Go.Lib.itoa_nonneg]
 exact ⟨rfl, ext_growW w k os⟩
theorem bs_appW (a b : List UInt8) : (⟨a.toArray⟩ : ByteArray) ++ ⟨b.toArray⟩ = ⟨(a ++ b).toArray⟩ := by
 apply ByteArray.ext
 simp [ByteArray.data_append]
theorem dec_pad : ∀ k n, n < 10 ^ k → decDigits (10 ^ k + n) = 49 :: wpad k n
 | 0, n, h => by
  have : n = 0 := by simpa using h
  subst this
  rw [decDigits, dif_pos (by decide), wpad]
  rfl
 | k + 1, n, h => by
  have hd : n / 10 < 10 ^ k := by
   rw [Nat.pow_succ] at h
   omega
  have h1 : 1 ≤ 10 ^ k := Nat.pow_pos (by decide)
  have e1 : (10 ^ (k + 1) + n) / 10 = 10 ^ k + n / 10 := by rw [Nat.pow_succ]; omega
  have e2 : (10 ^ (k + 1) + n) % 10 = n % 10 := by rw [Nat.pow_succ]; omega
  rw [decDigits, dif_neg (by rw [Nat.pow_succ]; omega), e1, e2, dec_pad k _ hd, wpad]
  rfl
theorem tail_str (x : UInt8) (l : List UInt8) : ({ data := (x :: l).toArray } : ByteArray).extract 1 (l.length + 1) = { data := l.toArray } := by
 apply ByteArray.ext
 simp [ByteArray.data_extract]
set_option maxHeartbeats 2000000 in
theorem wName_any (n : Int) (w : World) (hT : TbW w) : Calls Tryz.prog 38 #[.int .i64 n] w fun e w' => e = .returned (strV (wname n)) ∧ Ext w w' := by
 by_cases h1 : n < 1
 ·have HP := Lib.hid (wname_bad (.inl h1))
  go_enter Tryz.func38, Tryz.ntmps38
  go_wp2_with fail
  go_ret
  exact ⟨(by rw [HP.out]; rfl), Ext.refl _⟩
 by_cases h2 : 999999999999 < n
 ·have HP := Lib.hid (wname_bad (.inr h2))
  go_enter Tryz.func38, Tryz.ntmps38
  go_wp2_with fail
  go_ret
  exact ⟨(by rw [HP.out]; rfl), Ext.refl _⟩
 obtain ⟨m, rfl⟩ : ∃ m : Nat, n = (m : Int) := ⟨n.toNat, by omega⟩
 have HP := Lib.hid (wname_ok (n := m) (by omega) (by omega))
 have hI := itoaW_any (10 ^ 12 + m) w (by omega) hT
 rw [dec_pad 12 m (by omega)] at hI
 have hw : IntKind.i64.wrap (1000000000000 + (m : Int)) = 1000000000000 + (m : Int) := IntWalk.i64_in _ (by omega)
 have hc : (((10 ^ 12 + m : Nat)) : Int) = 1000000000000 + (m : Int) := by omega
 rw [hc] at hI
 have HI := Lib.hid hI
 have hl := wpad_len 12 m
 generalize wpad 12 m = d at *
 have hs : ({ data := (49 :: d).toArray } : ByteArray).size = 13 := by simp [ByteArray.size, hl]
 have hx : ({ data := (49 :: d).toArray } : ByteArray).extract 1 13 = { data := d.toArray } := by have := tail_str 49 d; rw [hl] at this; exact this
 have hs2 : ({ data := d.toArray } : ByteArray).size = 12 := by simp [ByteArray.size, hl]
 have HE := Lib.hid (bs_appW [119] d)
 unfold strV at HI ⊢
 clear hI hT hc
 go_enter Tryz.func38, Tryz.ntmps38
 go_wp2_with fail
 refine HI.out.mono ?_
 rintro e w1 ⟨rfl, x1⟩
 go_wp2_with fail
 go_ret
 refine ⟨?_, x1⟩
 rw [HP.out]
 exact congrArg (fun s => Ending.returned (Value.string s)) HE.out
theorem str_atW (l : List UInt8) (i : Nat) (h : i < ({ data := l.toArray } : ByteArray).size) : ({ data := l.toArray } : ByteArray)[i]'h = l.getD i 0 := by
 show l.toArray[i] = _
 have hi : i < l.length := by simpa [ByteArray.size] using h
 rw [List.getElem_toArray, List.getD_eq_getElem?_getD, List.getElem?_eq_getElem hi]
 rfl
theorem wdigs_step (l : List UInt8) (i n : Nat) (h : i < l.length) : wdigs (l.drop i) n = if (l.getD i 0).toNat < 48 ∨ 57 < (l.getD i 0).toNat then none else wdigs (l.drop (i + 1)) (10 * n + ((l.getD i 0).toNat - 48)) := by
 rw [List.drop_eq_getElem_cons h, wdigs, List.getD_eq_getElem?_getD, List.getElem?_eq_getElem h]
 rfl
theorem wpow_step {i n d : Nat} (h : n < 10 ^ i) (hd : d ≤ 9) : 10 * n + d < 10 ^ (i + 1) := by
 rw [Nat.pow_succ]
 omega
set_option maxHeartbeats 4000000 in
theorem wNumber_any (l : List UInt8) (w : World) (hl : l.length ≤ 9223372036854775807) :
  Calls Tryz.prog 16 #[strV l] w fun e w' => e = .returned (.int .i64 (wnum l : Int)) ∧ w = w' := by
 have hs : ({ data := l.toArray } : ByteArray).size = l.length := by simp [ByteArray.size]
 have HSA := Lib.hid (str_atW l)
 unfold strV
 go_enter Tryz.func16, Tryz.ntmps16
 by_cases h14 : l.length = 13
 ·have h0 : 0 < ({ data := l.toArray } : ByteArray).size := by omega
  have e0 := HSA.out 0 h0
  have HB0 := Lib.hid (UInt8.toNat_lt (l.getD 0 0))
  by_cases ho : (l.getD 0 0).toNat = 119
  ·have ho' : (({ data := l.toArray } : ByteArray)[0]'h0).toNat = 119 := by rw [e0]; exact ho
   clear e0
   have HP := Lib.hid (show wnum l = (wdigs (l.drop 1) 0).getD 0 by unfold wnum; rw [if_neg (by omega), if_neg (by omega)])
   go_wp2_with fail
   go_loopw [3, 4] (fun nv iv wr => ∃ i n : Nat, 1 ≤ i ∧ i ≤ 13 ∧ iv = .int .i64 i ∧ nv = .int .i64 n ∧ wdigs (l.drop 1) 0 = wdigs (l.drop i) n ∧ n < 10 ^ (i - 1) ∧ w = wr) (fun _ iv _ => 13 - (intOf iv).toNat)
   case atStart => exact ⟨1, 0, by decide, by decide, rfl, rfl, rfl, by decide, rfl⟩
   case round =>
    obtain ⟨i, n, h1, h2, rfl, rfl, hd, hn, rfl⟩ := hrel
    have hp : 10 ^ (i - 1) ≤ 10 ^ 12 := Nat.pow_le_pow_right (by decide) (by omega)
    have hn13 : n < 1000000000000 := Nat.lt_of_lt_of_le hn hp
    have HN := Lib.hid hn
    have HD := Lib.hid hd
    clear hn hp hd ho'
    by_cases hlt : i < 13
    ·have hi : i < ({ data := l.toArray } : ByteArray).size := by omega
     have ei := HSA.out i hi
     have hstep := wdigs_step l i n (by omega)
     have hb := UInt8.toNat_lt (l.getD i 0)
     have eq : (({ data := l.toArray } : ByteArray)[i]'hi).toNat = (l.getD i 0).toNat := by rw [ei]
     clear ei
     generalize (l.getD i 0).toNat = c at *
     have HS := Lib.hid hstep
     clear hstep
     by_cases hc1 : c < 48
     ·have HF := Lib.hid (show wnum l = 0 by rw [HP.out, HD.out, HS.out, if_pos (.inl hc1)]; rfl)
      go_wp2_with fail
      go_ret
      exact ⟨(by rw [HF.out]; rfl), rfl⟩
     by_cases hc2 : 57 < c
     ·have HF := Lib.hid (show wnum l = 0 by rw [HP.out, HD.out, HS.out, if_pos (.inr hc2)]; rfl)
      go_wp2_with fail
      go_ret
      exact ⟨(by rw [HF.out]; rfl), rfl⟩
     go_wp2_with fail
     go_roundw
     case rel => exact ⟨i + 1, 10 * n + (c - 48), by omega, by omega, by simp, by congr 1; omega, by rw [HD.out, HS.out, if_neg (by omega)], by have := wpow_step HN.out (show c - 48 ≤ 9 by omega); rwa [show i - 1 + 1 = i + 1 - 1 by omega] at this, by first | rfl | trivial⟩
     case measure => simp [intOf]; omega
    ·have hdr : wdigs (l.drop i) n = some n := by rw [List.drop_eq_nil_of_le (by omega)]; rfl
     have HF := Lib.hid (show wnum l = n by rw [HP.out, HD.out, hdr]; rfl)
     clear hdr
     go_wp2_with fail
     go_ret
     exact ⟨(by rw [HF.out]; rfl), rfl⟩
  ·have ho' : (({ data := l.toArray } : ByteArray)[0]'h0).toNat = (l.getD 0 0).toNat := by rw [e0]
   have HP := Lib.hid (show wnum l = 0 by unfold wnum; rw [if_neg (by omega), if_pos ho])
   clear e0
   generalize (l.getD 0 0).toNat = c at *
   go_wp2_with fail
   go_ret
   exact ⟨(by rw [HP.out]; rfl), rfl⟩
 ·have HP := Lib.hid (show wnum l = 0 by unfold wnum; rw [if_pos h14])
  go_wp2_with fail
  go_ret
  exact ⟨(by rw [HP.out]; rfl), rfl⟩
end Go.Proofs.YtagghghoimpofaaGreatDoor

/-
 Layer 16: a segment's name and its number: the document's.
-/
namespace Go.Proofs.YtagghghoimpofaaGreatDoor
open Go Go.RowKit Mono Num
set_option linter.unusedVariables false
set_option linter.unusedSimpArgs false
set_option maxRecDepth 100000

theorem wpad_step (k m : Nat) (t : List UInt8) : wpad (k + 1) m ++ t = wpad k (m / 10) ++ (UInt8.ofNat (48 + m % 10) :: t) := by rw [wpad, List.append_assoc]; rfl
theorem dig_int (d : Nat) (h : d < 10) : ((UInt8.ofNat (48 + d)).toNat : Int) = 48 + (d : Int) := by
 rw [dig_toNat d h]
 omega
set_option maxHeartbeats 2000000 in
theorem refNumbered_any (n : Int) (w : World) : Calls Tryz.prog 86 #[strV [119], .int .i64 n] w fun e w' => e = .returned (strV (wname n)) ∧ Ext w w' := by
 by_cases h1 : n < 1
 ·have HP := Lib.hid (wname_bad (.inl h1))
  go_enter Tryz.func86, Tryz.ntmps86
  go_wp2_with fail
  go_ret
  exact ⟨(by rw [HP.out]; rfl), Ext.refl _⟩
 by_cases h2 : 999999999999 < n
 ·have HP := Lib.hid (wname_bad (.inr h2))
  go_enter Tryz.func86, Tryz.ntmps86
  go_wp2_with fail
  go_ret
  exact ⟨(by rw [HP.out]; rfl), Ext.refl _⟩
 obtain ⟨N, rfl⟩ : ∃ m : Nat, n = (m : Int) := ⟨n.toNat, by omega⟩
 have HP := Lib.hid (wname_ok (n := N) (by omega) (by omega))
 have hN : N ≤ 999999999999 := by omega
 unfold strV
 go_enter Tryz.func86, Tryz.ntmps86
 go_wp2_with fail
 clear h1 h2
 go_loopw [1, 5, 6] (fun a s iv wr => ∃ (i m : Nat) (t : List UInt8), i ≤ 12 ∧ m ≤ 999999999999 ∧ a = .int .i64 m ∧ s = strV t ∧ iv = .int .i64 i ∧ t.length = i ∧ wpad 12 N = wpad (12 - i) m ++ t ∧ Ext w wr) (fun _ _ iv _ => 12 - (intOf iv).toNat)
 case atStart => exact ⟨0, N, [], by decide, hN, rfl, rfl, rfl, rfl, by simp, Ext.refl _⟩
 case round =>
  obtain ⟨i, m, t, hi, hm, rfl, rfl, rfl, htl, hd, hx⟩ := hrel
  have HD := Lib.hid hd
  clear hd
  have hst : ({ data := t.toArray } : ByteArray).size = t.length := by simp [ByteArray.size]
  have hov : ¬ 9223372036854775807 < 1 + t.length := by omega
  have hov2 : 1 + t.length ≤ 9223372036854775807 := by omega
  by_cases hlt : i < 12
  ·have q0 : 0 ≤ (m : Int) % 10 := by omega
   have q1 : (m : Int) % 10 < 10 := by omega
   have hb : Bs (wr.alloc (.cells #[.int .u8 (48 + (m : Int) % 10)] 5)) (.slice (some ⟨wr.heap.size, 0, none⟩) 1 1) [UInt8.ofNat (48 + m % 10)] :=
    Bs.alloc_ wr 5 _ (by simp [bv, dig_int (m % 10) (by omega)]; omega) rfl (Nat.le_refl _) (by decide)
   have c := hb.str_ (P := Tryz.prog) 34 9 5 Tryz.underlying34 Tryz.underlying5 Tryz.underlying9
   clear hb
   unfold strV at c ⊢
   have HF := Lib.hid (show wpad 12 N = wpad (12 - (i + 1)) (m / 10) ++ (UInt8.ofNat (48 + m % 10) :: t) by rw [HD.out, show 12 - i = (12 - (i + 1)) + 1 by omega, wpad_step])
   have HT := Lib.hid htl
   clear htl
   generalize UInt8.ofNat (48 + m % 10) = x at *
   go_wp2_with fail
   go_roundw
   case rel => exact ⟨i + 1, m / 10, x :: t, by omega, by omega, by go_num, congrArg Value.string (bs_appW [x] t), by simp, by simp [HT.out], HF.out, Ext.trans hx (ext_alloc _ _)⟩
   case measure => simp [intOf]; omega
  ·have HF := Lib.hid (show wpad 12 N = t by rw [HD.out, show 12 - i = 0 by omega, wpad, List.nil_append])
   unfold strV
   go_wp2_with fail
   go_ret
   exact ⟨(by rw [HP.out, HF.out]; exact congrArg (fun s => Ending.returned (Value.string s)) (bs_appW [119] t)), hx⟩
theorem refWName_any (n : Int) (w : World) : Calls Tryz.prog 51 #[.int .i64 n] w fun e w' => e = .returned (strV (wname n)) ∧ Ext w w' := by
 have HN := Lib.hid (refNumbered_any n w)
 unfold strV at HN ⊢
 go_enter Tryz.func51, Tryz.ntmps51
 go_wp2_with fail
 refine HN.out.mono ?_
 rintro e w1 ⟨rfl, x1⟩
 go_wp2_with fail
 go_ret
 exact ⟨rfl, x1⟩
theorem head_str (l : List UInt8) (h : 0 < l.length) : ({ data := l.toArray } : ByteArray).extract 0 1 = { data := #[l.getD 0 0] } := by
 cases l with
 | nil => cases h
 | cons a r =>
  apply ByteArray.ext
  simp [ByteArray.data_extract]
theorem head_list (l : List UInt8) (h : 0 < l.length) : (({ data := l.toArray } : ByteArray).extract 0 1).toList = [l.getD 0 0] := by
 rw [head_str l h, ByteArray.toList_eq]
theorem head_beq (l : List UInt8) (h : 0 < l.length) : ((({ data := l.toArray } : ByteArray).extract 0 1).toList == [119]) = decide ((l.getD 0 0).toNat = 119) := by
 rw [head_list l h]
 have : (l.getD 0 0).toNat = 119 ↔ l.getD 0 0 = 119 := by
  constructor
  ·intro e
   exact UInt8.toNat_inj.1 (by rw [e]; rfl)
  ·intro e
   rw [e]
   rfl
 rw [Bool.eq_iff_iff, beq_iff_eq, decide_eq_true_iff, this]
 constructor
 ·intro e
  injection e
 ·intro e
  rw [e]
set_option maxHeartbeats 4000000 in
theorem refWRead_any (l : List UInt8) (w : World) (hl : l.length ≤ 9223372036854775807) :
  Calls Tryz.prog 101 #[strV [119], strV l] w fun e w' => e = .returned (.int .i64 (wnum l : Int)) ∧ w = w' := by
 have hs : ({ data := l.toArray } : ByteArray).size = l.length := by simp [ByteArray.size]
 have HSA := Lib.hid (str_atW l)
 unfold strV
 go_enter Tryz.func101, Tryz.ntmps101
 by_cases h14 : l.length = 13
 ·have h0 : 0 < ({ data := l.toArray } : ByteArray).size := by omega
  have e0 := head_beq l (by omega)
  have HB0 := Lib.hid (UInt8.toNat_lt (l.getD 0 0))
  by_cases ho : (l.getD 0 0).toNat = 119
  ·rw [decide_eq_true ho] at e0
   have HP := Lib.hid (show wnum l = (wdigs (l.drop 1) 0).getD 0 by unfold wnum; rw [if_neg (by omega), if_neg (by omega)])
   go_wp2_with fail
   go_loopw [5, 6] (fun nv iv wr => ∃ i n : Nat, 1 ≤ i ∧ i ≤ 13 ∧ iv = .int .i64 i ∧ nv = .int .i64 n ∧ wdigs (l.drop 1) 0 = wdigs (l.drop i) n ∧ n < 10 ^ (i - 1) ∧ w = wr) (fun _ iv _ => 13 - (intOf iv).toNat)
   case atStart => exact ⟨1, 0, by decide, by decide, rfl, rfl, rfl, by decide, rfl⟩
   case round =>
    obtain ⟨i, n, h1, h2, rfl, rfl, hd, hn, rfl⟩ := hrel
    have hp : 10 ^ (i - 1) ≤ 10 ^ 12 := Nat.pow_le_pow_right (by decide) (by omega)
    have hn13 : n < 1000000000000 := Nat.lt_of_lt_of_le hn hp
    have HN := Lib.hid hn
    have HD := Lib.hid hd
    clear hn hp hd e0
    by_cases hlt : i < 13
    ·have hi : i < ({ data := l.toArray } : ByteArray).size := by omega
     have ei := HSA.out i hi
     have hstep := wdigs_step l i n (by omega)
     have hb := UInt8.toNat_lt (l.getD i 0)
     have eq : (({ data := l.toArray } : ByteArray)[i]'hi).toNat = (l.getD i 0).toNat := by rw [ei]
     clear ei
     generalize (l.getD i 0).toNat = c at *
     have HS := Lib.hid hstep
     clear hstep
     by_cases hc1 : c < 48
     ·have HF := Lib.hid (show wnum l = 0 by rw [HP.out, HD.out, HS.out, if_pos (.inl hc1)]; rfl)
      go_wp2_with fail
      go_ret
      exact ⟨(by rw [HF.out]; rfl), rfl⟩
     by_cases hc2 : 57 < c
     ·have HF := Lib.hid (show wnum l = 0 by rw [HP.out, HD.out, HS.out, if_pos (.inr hc2)]; rfl)
      go_wp2_with fail
      go_ret
      exact ⟨(by rw [HF.out]; rfl), rfl⟩
     go_wp2_with fail
     go_roundw
     case rel => exact ⟨i + 1, 10 * n + (c - 48), by omega, by omega, by simp, by congr 1; omega, by rw [HD.out, HS.out, if_neg (by omega)], by have := wpow_step HN.out (show c - 48 ≤ 9 by omega); rwa [show i - 1 + 1 = i + 1 - 1 by omega] at this, by first | rfl | trivial⟩
     case measure => simp [intOf]; omega
    ·have hdr : wdigs (l.drop i) n = some n := by rw [List.drop_eq_nil_of_le (by omega)]; rfl
     have HF := Lib.hid (show wnum l = n by rw [HP.out, HD.out, hdr]; rfl)
     clear hdr
     go_wp2_with fail
     go_ret
     exact ⟨(by rw [HF.out]; rfl), rfl⟩
  ·rw [decide_eq_false ho] at e0
   have HP := Lib.hid (show wnum l = 0 by unfold wnum; rw [if_neg (by omega), if_pos ho])
   generalize (l.getD 0 0).toNat = c at *
   go_wp2_with fail
   go_ret
   exact ⟨(by rw [HP.out]; rfl), rfl⟩
 ·have HP := Lib.hid (show wnum l = 0 by unfold wnum; rw [if_pos h14])
  go_wp2_with fail
  go_ret
  exact ⟨(by rw [HP.out]; rfl), rfl⟩
theorem refWNumber_any (l : List UInt8) (w : World) (hl : l.length ≤ 9223372036854775807) : Calls Tryz.prog 84 #[strV l] w fun e w' => e = .returned (.int .i64 (wnum l : Int)) ∧ w = w' := by
 have HN := Lib.hid (refWRead_any l w hl)
 unfold strV at HN ⊢
 go_enter Tryz.func84, Tryz.ntmps84
 go_wp2_with fail
 refine HN.out.mono ?_
 rintro e w1 ⟨rfl, rfl⟩
 go_wp2_with fail
 go_ret
 exact ⟨rfl, rfl⟩
end Go.Proofs.YtagghghoimpofaaGreatDoor
