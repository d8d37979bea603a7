/-
  The walks of the document's cut and Parse.
-/
import Derived.Test.YtjamopclfpmgjaaPolPrint
import Derived.IntWalk
namespace Go.Proofs.Ytjamopclfpmgjaa
open Go Go.RowKit Mono Num
set_option linter.unusedVariables false
set_option linter.unusedSimpArgs false

def cutB (c : UInt8) : List UInt8 → List UInt8 × List UInt8 × Bool
  | [] => ([], [], false)
  | x :: r => if x = c then ([], r, true) else (x :: (cutB c r).1, (cutB c r).2.1, (cutB c r).2.2)
theorem cutB_at (c : UInt8) : ∀ (s : List UInt8) (k : Nat), (∀ (j : Nat) b, j < k → s[j]? = some b → b ≠ c) → s[k]? = some c → cutB c s = (s.take k, s.drop (k + 1), true)
  | [], k, _, h => by simp at h
  | x :: r, 0, _, h => by
    obtain rfl : x = c := by simpa using h
    simp [cutB]
  | x :: r, k + 1, hn, h => by
    have := cutB_at c r k (fun j b hj hb => hn (j + 1) b (by omega) (by simpa using hb)) (by simpa using h)
    unfold cutB
    rw [if_neg (hn 0 x (by omega) (by simp)), this]
    simp
theorem cutB_none (c : UInt8) : ∀ (s : List UInt8), (∀ b ∈ s, b ≠ c) → cutB c s = (s, [], false)
  | [], _ => rfl
  | x :: r, h => by
    have := cutB_none c r (fun b hb => h b (by simp [hb]))
    unfold cutB
    rw [if_neg (h x (by simp)), this]
theorem cutB_len (c : UInt8) : ∀ (s : List UInt8), (cutB c s).1.length ≤ s.length ∧ (cutB c s).2.1.length ≤ s.length ∧ ((cutB c s).2.2 = true → (cutB c s).2.1.length < s.length)
  | [] => by simp [cutB]
  | x :: r => by
    have := cutB_len c r
    unfold cutB
    split
    · simp
    · simp only [List.length_cons]
      exact ⟨by omega, by omega, fun h => by have := this.2.2 h; omega⟩
theorem exec_str_from {P : Program} {w : World} {o : Oper} {t : TypeId} {x y : Operand} {f : Operand → Value} {a : List UInt8} {k : Nat} (hop : o.op = .slice t x (some y) none none) (ht : P.underlying t = some .string)
    (hx : f x = strV a) (hy : f y = .int .i64 (k : Int)) (hk : k ≤ a.length) : (execOp f o).run P w = .ok (.value (strV (a.drop k))) w := by
  have hs := strV_size a
  have h1 : (Instr.slice t (.string ⟨a.toArray⟩) (some (.int .i64 (k : Int))) none none).run P w = .ok (.string ((⟨a.toArray⟩ : ByteArray).extract k a.length)) w := by
    have := run_slice_string_from_if (P := P) (w := w) t (⟨a.toArray⟩ : ByteArray) .i64 (k : Int) ht
    rw [this, hs, if_pos (by omega), Int.toNat_natCast]
  have h2 : (⟨a.toArray⟩ : ByteArray).extract k a.length = ⟨(a.drop k).toArray⟩ := by
    rw [strV_extract, List.take_of_length_le (by rw [List.length_drop]; exact Nat.le_refl _)]
  unfold strV at hx ⊢
  simp only [execOp, hop, hx, hy, Option.map_none, Option.map_some]
  simp [run_sliceAt_string (h := ht), h1, h2]
theorem byte_eq (a c : UInt8) : ((a.toNat : Int) == (c.toNat : Int)) = (a == c) := by
  rw [Bool.eq_iff_iff]
  simp only [beq_iff_eq]
  constructor
  · intro h
    exact UInt8.toNat_inj.1 (by omega)
  · intro h
    rw [h]

set_option maxHeartbeats 2000000 in
theorem cut_any (s : List UInt8) (c : UInt8) (w : World) (hm : s.length ≤ 1000000) :
    Calls Try.prog 27 #[strV s, .int .u8 (c.toNat : Int)] w fun e w' => e = .returned (.tuple #[strV (cutB c s).1, strV (cutB c s).2.1, .bool (cutB c s).2.2]) ∧ Ext w w' := by
  have hsz := strV_size s
  have hc256 := c.toNat_lt
  go_enter Try.func27, Try.ntmps27
  unfold strV
  go_wp2_with fail
  go_loop [7] (fun i => ∃ k : Nat, k ≤ s.length ∧ i = .int .i64 k ∧ (∀ (j : Nat) b, j < k → s[j]? = some b → b ≠ c)) (fun i => s.length - (intOf i).toNat)
  case atStart => exact ⟨0, Nat.zero_le _, rfl, fun j b h => absurd h (by omega)⟩
  case round =>
    obtain ⟨k, hk, rfl, hall⟩ := hrel
    have HA := Lib.hid hall
    clear hall
    by_cases hlt : k < s.length
    · have hget : s[k]? = some s[k] := List.getElem?_eq_getElem hlt
      have hsg := strV_get s k (by rw [hsz]; exact hlt)
      have HG := Lib.hid hget
      clear hget
      generalize s[k] = x at *
      have hbe := byte_eq x c
      cases hxc : (x == c)
      · rw [hxc] at hbe
        have hx1 : x ≠ c := by simpa using hxc
        clear hxc
        have HX := Lib.hid hx1
        clear hx1
        go_wp2_with fail
        go_round
        case rel => exact ⟨k + 1, by omega, by go_num, fun j b hj hb => by
          by_cases hjk : j = k
          · subst hjk
            rw [HG.out] at hb
            injection hb with hb
            rw [← hb]
            exact HX.out
          · exact HA.out j b (by omega) hb⟩
        case measure => simp [intOf]; omega
      · rw [hxc] at hbe
        obtain rfl : x = c := by simpa using hxc
        have HR := Lib.hid (cutB_at x s k HA.out HG.out)
        clear hxc
        go_wp2_with fail
        refine wp_region_mono (by kernel_rfl) (by kernel_rfl) ?_
        refine tele_move rfl (.inl rfl) rfl (isV (strV s)) (fun ρ w' h => h) ?_
        refine tele_move rfl (.inl rfl) rfl (isV (.int .i64 (k : Int))) (fun ρ w' h => h) ?_
        refine tele_val rfl (strV (s.take k)) (fun _ _ _ => rfl) ?_ ?_
        · rintro ρ w' he ⟨h19, h20, -⟩
          have e19 : ρ 19 = (strV s) := h19
          have e20 : ρ 20 = (.int .i64 (k : Int)) := h20
          exact exec_str_upto rfl Try.underlying9 e19 e20 (by omega)
        refine tele_move rfl (.inl rfl) rfl (isV (strV s)) (fun ρ w' h => h) ?_
        refine tele_move rfl (.inl rfl) rfl (isV (.int .i64 (k : Int))) (fun ρ w' h => h) ?_
        refine tele_val rfl (.int .i64 ((k + 1 : Nat) : Int)) (fun _ _ _ => rfl) ?_ ?_
        · rintro ρ w' he ⟨h23, -⟩
          have e23 : ρ 23 = (.int .i64 (k : Int)) := h23
          have hw : IntKind.i64.wrap ((k : Int) + 1) = ((k + 1 : Nat) : Int) := by rw [IntWalk.i64_in _ (by omega)]; omega
          simp [execOp, evR, e23, hw, go_sem]
        refine tele_val rfl (strV (s.drop (k + 1))) (fun _ _ _ => rfl) ?_ ?_
        · rintro ρ w' he ⟨h22, h24, -⟩
          have e22 : ρ 22 = (strV s) := h22
          have e24 : ρ 24 = (.int .i64 ((k + 1 : Nat) : Int)) := h24
          exact exec_str_from rfl Try.underlying9 e22 e24 (by omega)
        refine tele_move rfl (.inr rfl) rfl (isV (strV (s.take k))) (fun ρ w' h => h) ?_
        refine tele_move rfl (.inr rfl) rfl (isV (strV (s.drop (k + 1)))) (fun ρ w' h => h) ?_
        refine tele_val rfl (.bool true) (fun _ _ _ => rfl) ?_ ?_
        · rintro ρ w' he -
          simp [execOp, evR]
        refine tele_nil ?_
        rintro ρ w' hext ⟨f6, f5, f4, f25, f24, f23, f22, f21, f20, f19, -⟩
        replace f19 : ρ 19 = (strV s) := f19
        replace f20 : ρ 20 = (.int .i64 (k : Int)) := f20
        replace f21 : ρ 21 = (strV (s.take k)) := f21
        replace f22 : ρ 22 = (strV s) := f22
        replace f23 : ρ 23 = (.int .i64 (k : Int)) := f23
        replace f24 : ρ 24 = (.int .i64 ((k + 1 : Nat) : Int)) := f24
        replace f25 : ρ 25 = (strV (s.drop (k + 1))) := f25
        replace f4 : ρ 4 = (strV (s.take k)) := f4
        replace f5 : ρ 5 = (strV (s.drop (k + 1))) := f5
        replace f6 : ρ 6 = (.bool true) := f6
        simp only [puts, Act.put, List.setIfInBounds_toArray, List.set_cons_zero, List.set_cons_succ]
        go_wp2_with fail
        go_ret3
        exact ⟨by rw [HR.out]; simp only [Array.getD_eq_getD_getElem?]; simp [f4, f5, f6, strV], hext⟩
    · have HR := Lib.hid (cutB_none c s (fun b hb => by
        obtain ⟨j, hj⟩ := List.getElem?_of_mem hb
        exact HA.out j b (by have := (List.getElem?_eq_some_iff.1 hj).1; omega) hj))
      go_wp2_with fail
      go_ret3
      exact ⟨by rw [HR.out]; rfl, Ext.refl _⟩
end Go.Proofs.Ytjamopclfpmgjaa
