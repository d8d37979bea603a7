/-
  Layer 19: the name of a note.
-/
import Derived.Test.YtacabcpjaadijaaDoorText
import Derived.Test.YtacabcpjaadijaaDoorNumText
import Derived.Test.YtacabcpjaadijaaDoorCapShelf
import Derived.Lib.SmallJoins
import Derived.Lib.ItoaMem
import Derived.Sort.Grow
namespace Go.Proofs.YtacabcpjaadijaaDoor
open Go Go.RowKit Mono Num
open Go.Lib (decDigits)
set_option linter.unusedVariables false
set_option linter.unusedSimpArgs false
set_option maxRecDepth 100000

theorem var_extC {P : Program} {w w' : World} {nm : String} {cs : Array Value} (h : w.var? P nm = some cs) (x : Ext w w') : w'.var? P nm = some cs := by
  unfold World.var? at h ⊢
  cases hg : P.globalNamed nm with
  | none => rw [hg] at h; cases h
  | some g =>
    rw [hg] at h
    simp only [Option.bind_some] at h ⊢
    have hlt : g < w.heap.size := by
      rcases Nat.lt_or_ge g w.heap.size with k | k
      · exact k
      · rw [Array.getElem?_eq_none k] at h; cases h
    rw [x.block g hlt]
    exact h
/-- The table of powers holds what the program's text lays. -/
def TbC (w : World) : Prop := Lib.TabIs Tryd.prog w "internal/strconv.uint64pow10" .u64 Lib.pow10Tab
theorem TbC.ext {w w' : World} (h : TbC w) (x : Ext w w') : TbC w' := var_extC h x
theorem ext_growC (w : World) (k : Nat) (os : Array Obj) : Ext w (Go.Sort.grow (w.drewN k) os) :=
  ⟨rfl, rfl, rfl, by simp [Go.Sort.grow, World.drewN], fun j hj => by
    show ((w.drewN k).heap ++ os)[j]? = w.heap[j]?
    have e : (w.drewN k).heap = w.heap := rfl
    rw [e, Array.getElem?_append_left hj]⟩
theorem itoaC_any (n : Nat) (w : World) (hn : n ≤ 281474976710656) (ht : TbC w) :
    Calls Tryd.prog 33 #[.int .i64 (n : Int)] w fun e w' => e = .returned (strV (decDigits n)) ∧ Ext w w' := by
  refine (Tryd.strconv_Itoa (n : Int) (by omega) (by omega) w ht).mono ?_
  rintro e w' ⟨rfl, k, os, rfl⟩
  rw [Go.Lib.itoa_nonneg]
  exact ⟨rfl, ext_growC w k os⟩
theorem bs_appC (a b : List UInt8) : (⟨a.toArray⟩ : ByteArray) ++ ⟨b.toArray⟩ = ⟨(a ++ b).toArray⟩ := by
  apply ByteArray.ext
  simp [ByteArray.data_append]
theorem dig_natC (d : Nat) (h : d < 10) : ((UInt8.ofNat (48 + d)).toNat : Int) = 48 + (d : Int) := by
  have : (UInt8.ofNat (48 + d)).toNat = 48 + d := by
    rw [UInt8.toNat_ofNat']
    exact Nat.mod_eq_of_lt (by omega)
  rw [this]
  omega
/-- So many digits of a number. -/
def pad : Nat → Nat → List UInt8
  | 0, _ => []
  | k + 1, n => pad k (n / 10) ++ [UInt8.ofNat (48 + n % 10)]
theorem pad_len : ∀ k n, (pad k n).length = k
  | 0, _ => rfl
  | k + 1, n => by rw [pad, List.length_append, pad_len k]; rfl
theorem pad_zero : ∀ k, pad k 0 = List.replicate k 48
  | 0 => rfl
  | k + 1 => by
    rw [pad, Nat.zero_div, pad_zero k, List.replicate_succ']
    rfl
theorem pad_dec : ∀ k n, 1 ≤ k → n < 10 ^ k → (decDigits n).length ≤ k ∧ pad k n = List.replicate (k - (decDigits n).length) 48 ++ decDigits n
  | 0, n, h, _ => by omega
  | k + 1, n, _, h => by
    by_cases h10 : n < 10
    · rw [decDigits, dif_pos h10, pad, Nat.div_eq_of_lt h10, pad_zero, Nat.mod_eq_of_lt h10]
      exact ⟨by simp, by simp⟩
    · have hk : 1 ≤ k := by
        rcases Nat.eq_zero_or_pos k with h0 | h0
        · subst h0
          simp at h
          omega
        · exact h0
      have hd : n / 10 < 10 ^ k := by
        rw [Nat.pow_succ] at h
        omega
      obtain ⟨h1, h2⟩ := pad_dec k (n / 10) hk hd
      rw [decDigits, dif_neg h10, pad, h2, List.length_append]
      refine ⟨by simp; omega, ?_⟩
      rw [← List.append_assoc, List.length_singleton]
      congr 2
      congr 1
      omega
def pname (n : Int) : List UInt8 := if n < 1 ∨ 1099511627776 < n then [] else 111 :: pad 13 n.toNat
theorem pname_bad {n : Int} (h : n < 1 ∨ 1099511627776 < n) : pname n = [] := by unfold pname; rw [if_pos h]
theorem rep_one (k : Nat) : Lib.repeatL [(48 : UInt8)] k = List.replicate k 48 := by
  have := Lib.repeatL_replicate (48 : UInt8) 1 k
  simpa using this

set_option maxHeartbeats 2000000 in
theorem capName_any (n : Int) (w : World) (hT : TbC w) : Calls Tryd.prog 15 #[.int .i64 n] w fun e w' => e = .returned (strV (pname n)) ∧ Ext w w' := by
  by_cases h1 : n < 1
  · have HP := Lib.hid (pname_bad (.inl h1))
    go_enter Tryd.func15, Tryd.ntmps15
    go_wp2_with fail
    go_ret
    exact ⟨(by rw [HP.out]; rfl), Ext.refl _⟩
  by_cases h2 : 1099511627776 < n
  · have HP := Lib.hid (pname_bad (.inr h2))
    go_enter Tryd.func15, Tryd.ntmps15
    go_wp2_with fail
    go_ret
    exact ⟨(by rw [HP.out]; rfl), Ext.refl _⟩
  obtain ⟨m, rfl⟩ : ∃ m : Nat, n = (m : Int) := ⟨n.toNat, by omega⟩
  obtain ⟨hd1, hd2⟩ := pad_dec 13 m (by decide) (by omega)
  have HP := Lib.hid (show pname (m : Int) = 111 :: (List.replicate (13 - (decDigits m).length) 48 ++ decDigits m) by unfold pname; rw [if_neg (by omega), Int.toNat_natCast, hd2])
  clear hd2
  have HI := Lib.hid (itoaC_any m w (by omega) hT)
  have HR := Lib.hid (fun w => Tryd.strings_Repeat ⟨#[48]⟩ (13 - (decDigits m).length) w (by omega) (by show 1 * _ ≤ _; omega))
  simp only [rep_one] at HR
  generalize decDigits m = d at *
  unfold strV at HI ⊢
  go_enter Tryd.func15, Tryd.ntmps15
  go_wp2_with fail
  refine HI.out.mono ?_
  rintro e w1 ⟨rfl, x1⟩
  have hs : ({ data := d.toArray } : ByteArray).size = d.length := by simp [ByteArray.size]
  have hc : (13 : Int) - (d.length : Int) = ((13 - d.length : Nat) : Int) := by omega
  go_wp2_with fail
  refine (HR.out _).mono ?_
  rintro e w2 ⟨rfl, x2⟩
  have hrl : (List.replicate (13 - d.length) (48 : UInt8)).length = 13 - d.length := List.length_replicate
  generalize List.replicate (13 - d.length) (48 : UInt8) = r at *
  have hs2 : ({ data := r.toArray } : ByteArray).size = r.length := by simp [ByteArray.size]
  have o1 : ¬ 9223372036854775807 < 1 + r.length := by omega
  have o2 : 1 + r.length ≤ 9223372036854775807 := by omega
  have o3 : ¬ 9223372036854775807 < 1 + r.length + d.length := by omega
  have o4 : 1 + r.length + d.length ≤ 9223372036854775807 := by omega
  clear hrl hc hd1 HR
  have HX := Lib.hid (Ext.trans x1 x2)
  clear x1 x2
  go_wp2_with fail
  go_ret
  refine ⟨?_, HX.out⟩
  rw [HP.out]
  have e1 := bs_appC [111] r
  have e2 := bs_appC (111 :: r) d
  refine congrArg (fun s => Ending.returned (Value.string s)) ?_
  exact (congrArg (· ++ (⟨d.toArray⟩ : ByteArray)) e1).trans e2

theorem pad_step (k m : Nat) (t : List UInt8) : pad (k + 1) m ++ t = pad k (m / 10) ++ (UInt8.ofNat (48 + m % 10) :: t) := by rw [pad, List.append_assoc]; rfl
set_option maxHeartbeats 2000000 in
theorem refCName_any (n : Int) (w : World) : Calls Tryd.prog 16 #[.int .i64 n] w fun e w' => e = .returned (strV (pname n)) ∧ Ext w w' := by
  by_cases h1 : n < 1
  · have HP := Lib.hid (pname_bad (.inl h1))
    go_enter Tryd.func16, Tryd.ntmps16
    go_wp2_with fail
    go_ret
    exact ⟨(by rw [HP.out]; rfl), Ext.refl _⟩
  by_cases h2 : 1099511627776 < n
  · have HP := Lib.hid (pname_bad (.inr h2))
    go_enter Tryd.func16, Tryd.ntmps16
    go_wp2_with fail
    go_ret
    exact ⟨(by rw [HP.out]; rfl), Ext.refl _⟩
  obtain ⟨N, rfl⟩ : ∃ m : Nat, n = (m : Int) := ⟨n.toNat, by omega⟩
  have HP := Lib.hid (show pname (N : Int) = 111 :: pad 13 N by unfold pname; rw [if_neg (by omega), Int.toNat_natCast])
  have hN : N ≤ 1099511627776 := by omega
  go_enter Tryd.func16, Tryd.ntmps16
  go_wp2_with fail
  clear h1 h2
  go_loopw [0, 3, 4] (fun a s iv wr => ∃ (i m : Nat) (t : List UInt8), i ≤ 13 ∧ m ≤ 1099511627776 ∧ a = .int .i64 m ∧ s = strV t ∧ iv = .int .i64 i ∧ t.length = i ∧ pad 13 N = pad (13 - i) m ++ t ∧ Ext w wr) (fun _ _ iv _ => 13 - (intOf iv).toNat)
  case atStart => exact ⟨0, N, [], by decide, hN, rfl, rfl, rfl, rfl, by simp, Ext.refl _⟩
  case round =>
    obtain ⟨i, m, t, hi, hm, rfl, rfl, rfl, htl, hd, hx⟩ := hrel
    have HD := Lib.hid hd
    clear hd
    have hst : ({ data := t.toArray } : ByteArray).size = t.length := by simp [ByteArray.size]
    have hov : ¬ 9223372036854775807 < 1 + t.length := by omega
    have hov2 : 1 + t.length ≤ 9223372036854775807 := by omega
    by_cases hlt : i < 13
    · have q0 : 0 ≤ (m : Int) % 10 := by omega
      have q1 : (m : Int) % 10 < 10 := by omega
      have hb : Bs (wr.alloc (.cells #[.int .u8 (48 + (m : Int) % 10)] 5)) (.slice (some ⟨wr.heap.size, 0, none⟩) 1 1) [UInt8.ofNat (48 + m % 10)] :=
        Bs.alloc_ wr 5 _ (by simp [bv, dig_natC (m % 10) (by omega)]; omega) rfl (Nat.le_refl _) (by decide)
      have c := hb.str_ (P := Tryd.prog) 75 9 5 Tryd.underlying75 Tryd.underlying5 Tryd.underlying9
      clear hb
      unfold strV at c ⊢
      have HF := Lib.hid (show pad 13 N = pad (13 - (i + 1)) (m / 10) ++ (UInt8.ofNat (48 + m % 10) :: t) by rw [HD.out, show 13 - i = (13 - (i + 1)) + 1 by omega, pad_step])
      have HT := Lib.hid htl
      clear htl
      generalize UInt8.ofNat (48 + m % 10) = x at *
      go_wp2_with fail
      go_roundw
      case rel => exact ⟨i + 1, m / 10, x :: t, by omega, by omega, by go_num, congrArg Value.string (bs_appC [x] t), by simp, by simp [HT.out], HF.out, Ext.trans hx (ext_alloc _ _)⟩
      case measure => simp [intOf]; omega
    · have HF := Lib.hid (show pad 13 N = t by rw [HD.out, show 13 - i = 0 by omega, pad, List.nil_append])
      unfold strV
      go_wp2_with fail
      go_ret
      exact ⟨(by rw [HP.out, HF.out]; exact congrArg (fun s => Ending.returned (Value.string s)) (bs_appC [111] t)), hx⟩
end Go.Proofs.YtacabcpjaadijaaDoor
