/-
  The walks of layer 7: which names may be.
-/
import Derived.Test.YtocdifjdeifclaaPolPlain
import Derived.WalkSpells
namespace Go.Proofs.Ytocdifjdeifclaa
open Go Go.RowKit Mono Num
set_option linter.unusedVariables false
set_option linter.unusedSimpArgs false

theorem strV_get (l : List UInt8) (i : Nat) (h : i < (⟨l.toArray⟩ : ByteArray).size) : (⟨l.toArray⟩ : ByteArray)[i] = l[i]'(by simpa [ByteArray.size] using h) := by
  show l.toArray[i] = _
  simp
set_option maxHeartbeats 1600000 in
theorem refName_any (s : List UInt8) (w : World) (hm : s.length ≤ maxLen) :
    Calls Try.prog 68 #[strV s] w fun e w' => e = .returned (.bool (nameOk s)) ∧ w = w' := by
  unfold strV
  unfold maxLen at hm
  have hsz := strV_size s
  go_enter Try.func68, Try.ntmps68
  go_wp2_with fail
  go_loop [3] (fun i => ∃ k : Nat, k ≤ s.length ∧ i = .int .i64 k ∧ (s.take k).all okc = true) (fun i => s.length - (intOf i).toNat)
  case atStart => exact ⟨0, Nat.zero_le _, rfl, rfl⟩
  case round =>
    obtain ⟨k, hk, rfl, hall⟩ := hrel
    have HA := Lib.hid hall
    clear hall
    by_cases hlt : k < s.length
    · have hget : s[k]? = some s[k] := List.getElem?_eq_getElem hlt
      have hsg := strV_get s k (by rw [hsz]; exact hlt)
      have HG := Lib.hid hget
      clear hget
      generalize s[k] = c at *
      cases hc : okc c
      · have HF := Lib.hid (nameOk_false_of HG.out hc)
        rcases okc_false hc with h | h
        · go_wp2_with fail
          go_ret
          exact ⟨by rw [HF.out]; rfl, rfl⟩
        · go_wp2_with fail
          go_ret
          exact ⟨by rw [HF.out]; rfl, rfl⟩
      · have HT := Lib.hid (all_take_succ HG.out HA.out hc)
        obtain ⟨c1, c2⟩ := okc_true hc
        go_wp2_with fail
        go_round
        case rel => exact ⟨k + 1, by omega, by go_num, HT.out⟩
        case measure => simp [intOf]; omega
    · have hall := HA.out
      rw [List.take_of_length_le (by omega)] at hall
      have HN := Lib.hid (show nameOk s = (decide (1 ≤ s.length) && decide (s.length ≤ 12)) by unfold nameOk; rw [hall, Bool.true_and])
      clear hall
      by_cases h1 : 1 ≤ s.length
      · by_cases h2 : s.length ≤ 12
        · go_wp2_with fail
          go_ret
          exact ⟨by rw [HN.out]; simp [h1, h2]; omega, rfl⟩
        · go_wp2_with fail
          go_ret
          exact ⟨by rw [HN.out]; simp [h1, h2]; omega, rfl⟩
      · go_wp2_with fail
        go_ret
        exact ⟨by rw [HN.out]; simp [h1], rfl⟩

theorem next_at {P : Program} (W1 : World) (B : Nat) (hB : W1.heap.size = B) (s : ByteArray) (k : Nat) (ty : TypeId) (h : k < s.size) :
    (Instr.next (.pointer (some ⟨B, 0, none⟩)) true ty).run P (W1.iter s k) = .ok (.tuple #[.bool true, .int .i64 k, .int .i32 (Utf8.decode s k).1]) (W1.iter s (k + (Utf8.decode s k).2)) := by
  subst hB
  exact run_next_any W1 s k ty h
theorem next_none {P : Program} (W1 : World) (B : Nat) (hB : W1.heap.size = B) (s : ByteArray) (k : Nat) (ty : TypeId) (h : ¬ k < s.size) :
    (Instr.next (.pointer (some ⟨B, 0, none⟩)) true ty).run P (W1.iter s k) = .ok (.tuple #[.bool false]) (W1.iter s k) := by
  subst hB
  exact run_next_end W1 s k ty h
theorem width_pos (s : ByteArray) (pos : Nat) (h : pos < s.size) : 1 ≤ (Utf8.decode s pos).2 := by
  by_cases ha : (s[pos]'h).toNat < 128
  · rw [decode_ascii s pos h ha]
    exact Nat.le_refl _
  · exact (decode_high s pos h (by omega)).2
set_option maxHeartbeats 1600000 in
theorem named_any (s : List UInt8) (p : Int) (w : World) (hm : s.length ≤ maxLen) :
    Calls Try.prog 64 #[grpV (s, p)] w fun e w' => e = .returned (.bool (grpOk (s, p))) ∧ Ext w w' := by
  unfold grpV strV
  dsimp only
  unfold maxLen at hm
  have hsz := strV_size s
  by_cases h0 : s.length = 0
  · obtain rfl := List.eq_nil_of_length_eq_zero h0
    go_enter Try.func64, Try.ntmps64
    go_wp2_with fail
    go_ret
    exact ⟨by simp [grpOk, nameOk], ext_alloc _ _⟩
  · have hne : s.isEmpty = false := by cases s with | nil => exact absurd rfl h0 | cons => rfl
    have hne2 : (s == []) = false := by cases s with | nil => exact absurd rfl h0 | cons => rfl
    by_cases h12 : 12 < s.length
    · have HF := Lib.hid (show grpOk (s, p) = false by unfold grpOk nameOk; rw [show decide (s.length ≤ 12) = false by simp; omega]; simp)
      go_enter Try.func64, Try.ntmps64
      go_wp2_with fail
      go_ret
      exact ⟨by rw [HF.out]; rfl, ext_alloc _ _⟩
    · by_cases hp : p = 1 ∨ p = 2
      · have HP := Lib.hid (show polOk p = true by unfold polOk; rcases hp with rfl | rfl <;> rfl)
        have HN := Lib.hid (show ∀ b : Bool, (s.all okc = b) → grpOk (s, p) = b by
          intro b hb
          unfold grpOk nameOk
          dsimp only
          rw [HP.out, hb, show decide (1 ≤ s.length) = true by simp; omega, show decide (s.length ≤ 12) = true by simp; omega]
          simp)
        rcases hp with rfl | rfl
        · have hx0 : Ext w (w.alloc (.cells #[.string ⟨s.toArray⟩, .int .i64 1] 52)) := ext_alloc _ _
          have hs1 : (w.alloc (.cells #[.string ⟨s.toArray⟩, .int .i64 1] 52)).heap.size = w.heap.size + 1 := by simp
          go_enter Try.func64, Try.ntmps64
          go_wp2_with fail
          generalize (w.alloc (.cells #[.string ⟨s.toArray⟩, .int .i64 1] 52)) = W1 at *
          have HS1 := Lib.hid hs1
          clear hs1
          go_loopw [4] (fun _ wr => ∃ pos : Nat, wr = W1.iter ⟨s.toArray⟩ pos ∧ pos ≤ s.length ∧ (s.take pos).all okc = true) (fun _ wr => s.length - wr.iterPos (w.heap.size + 1))
          case atStart => exact ⟨0, rfl, Nat.zero_le _, rfl⟩
          case round =>
            obtain ⟨k, rfl, hk, hall⟩ := hrel
            have HA := Lib.hid hall
            clear hall
            have hxi : Ext w (W1.iter ⟨s.toArray⟩ k) := Ext.trans hx0 (ext_alloc _ _)
            by_cases hlt : k < s.length
            · have hget : s[k]? = some s[k] := List.getElem?_eq_getElem hlt
              have hlt' : k < (⟨s.toArray⟩ : ByteArray).size := by rw [hsz]; exact hlt
              have hsg := strV_get s k hlt'
              have hnx := fun ty => next_at (P := Try.prog) W1 _ HS1.out ⟨s.toArray⟩ k ty hlt'
              by_cases h128 : s[k].toNat < 128
              · have hda := decode_ascii ⟨s.toArray⟩ k hlt' (by rw [hsg]; exact h128)
                rw [hsg] at hda
                rw [hda] at hnx
                dsimp only at hnx
                have hxi1 : Ext w (W1.iter ⟨s.toArray⟩ (k + 1)) := Ext.trans hx0 (ext_alloc _ _)
                have HG := Lib.hid hget
                clear hget hda hsg
                generalize s[k] = c at *
                cases hc : okc c
                · have HF := Lib.hid (HN.out false (by rw [List.all_eq_false]; exact ⟨c, List.mem_of_getElem? HG.out, by simp [hc]⟩))
                  rcases okc_false hc with h | h
                  all_goals
                    clear hc
                    go_wp2_with fail
                    go_ret
                    exact ⟨by rw [HF.out]; rfl, hxi1⟩
                · have HT := Lib.hid (all_take_succ HG.out HA.out hc)
                  obtain ⟨c1, c2⟩ := okc_true hc
                  clear hc
                  go_wp2_with fail
                  go_roundw
                  case rel => exact ⟨k + 1, rfl, by omega, HT.out⟩
                  case measure =>
                    have e1 := World.iterPos_iter W1 ⟨s.toArray⟩ k
                    have e2 := World.iterPos_iter W1 ⟨s.toArray⟩ (k + 1)
                    rw [HS1.out] at e1 e2
                    rw [e1, e2]
                    omega
              · obtain ⟨hd1, hd2⟩ := decode_high ⟨s.toArray⟩ k hlt' (by rw [hsg]; omega)
                have hd3 := decode_le ⟨s.toArray⟩ k
                have HF := Lib.hid (HN.out false (by rw [List.all_eq_false]; exact ⟨s[k], List.getElem_mem hlt, by unfold okc; simp; omega⟩))
                generalize Utf8.decode ⟨s.toArray⟩ k = d at *
                obtain ⟨r, n⟩ := d
                dsimp only at hnx hd1 hd2 hd3
                have hxi2 : Ext w (W1.iter ⟨s.toArray⟩ (k + n)) := Ext.trans hx0 (ext_alloc _ _)
                have hr : (122 : Int) < r := by omega
                have hr2 : ¬ r < (97 : Int) := by omega
                clear hget hsg
                go_wp2_with fail
                go_ret
                exact ⟨by rw [HF.out]; rfl, hxi2⟩
            · have hnx := fun ty => next_none (P := Try.prog) W1 _ HS1.out ⟨s.toArray⟩ k ty (by rw [hsz]; exact hlt)
              have HF := Lib.hid (HN.out true (by have := HA.out; rwa [List.take_of_length_le (by omega)] at this))
              go_wp2_with fail
              go_ret
              exact ⟨by rw [HF.out]; rfl, hxi⟩
        · have hx0 : Ext w (w.alloc (.cells #[.string ⟨s.toArray⟩, .int .i64 2] 52)) := ext_alloc _ _
          have hs1 : (w.alloc (.cells #[.string ⟨s.toArray⟩, .int .i64 2] 52)).heap.size = w.heap.size + 1 := by simp
          go_enter Try.func64, Try.ntmps64
          go_wp2_with fail
          generalize (w.alloc (.cells #[.string ⟨s.toArray⟩, .int .i64 2] 52)) = W1 at *
          have HS1 := Lib.hid hs1
          clear hs1
          go_loopw [4] (fun _ wr => ∃ pos : Nat, wr = W1.iter ⟨s.toArray⟩ pos ∧ pos ≤ s.length ∧ (s.take pos).all okc = true) (fun _ wr => s.length - wr.iterPos (w.heap.size + 1))
          case atStart => exact ⟨0, rfl, Nat.zero_le _, rfl⟩
          case round =>
            obtain ⟨k, rfl, hk, hall⟩ := hrel
            have HA := Lib.hid hall
            clear hall
            have hxi : Ext w (W1.iter ⟨s.toArray⟩ k) := Ext.trans hx0 (ext_alloc _ _)
            by_cases hlt : k < s.length
            · have hget : s[k]? = some s[k] := List.getElem?_eq_getElem hlt
              have hlt' : k < (⟨s.toArray⟩ : ByteArray).size := by rw [hsz]; exact hlt
              have hsg := strV_get s k hlt'
              have hnx := fun ty => next_at (P := Try.prog) W1 _ HS1.out ⟨s.toArray⟩ k ty hlt'
              by_cases h128 : s[k].toNat < 128
              · have hda := decode_ascii ⟨s.toArray⟩ k hlt' (by rw [hsg]; exact h128)
                rw [hsg] at hda
                rw [hda] at hnx
                dsimp only at hnx
                have hxi1 : Ext w (W1.iter ⟨s.toArray⟩ (k + 1)) := Ext.trans hx0 (ext_alloc _ _)
                have HG := Lib.hid hget
                clear hget hda hsg
                generalize s[k] = c at *
                cases hc : okc c
                · have HF := Lib.hid (HN.out false (by rw [List.all_eq_false]; exact ⟨c, List.mem_of_getElem? HG.out, by simp [hc]⟩))
                  rcases okc_false hc with h | h
                  all_goals
                    clear hc
                    go_wp2_with fail
                    go_ret
                    exact ⟨by rw [HF.out]; rfl, hxi1⟩
                · have HT := Lib.hid (all_take_succ HG.out HA.out hc)
                  obtain ⟨c1, c2⟩ := okc_true hc
                  clear hc
                  go_wp2_with fail
                  go_roundw
                  case rel => exact ⟨k + 1, rfl, by omega, HT.out⟩
                  case measure =>
                    have e1 := World.iterPos_iter W1 ⟨s.toArray⟩ k
                    have e2 := World.iterPos_iter W1 ⟨s.toArray⟩ (k + 1)
                    rw [HS1.out] at e1 e2
                    rw [e1, e2]
                    omega
              · obtain ⟨hd1, hd2⟩ := decode_high ⟨s.toArray⟩ k hlt' (by rw [hsg]; omega)
                have hd3 := decode_le ⟨s.toArray⟩ k
                have HF := Lib.hid (HN.out false (by rw [List.all_eq_false]; exact ⟨s[k], List.getElem_mem hlt, by unfold okc; simp; omega⟩))
                generalize Utf8.decode ⟨s.toArray⟩ k = d at *
                obtain ⟨r, n⟩ := d
                dsimp only at hnx hd1 hd2 hd3
                have hxi2 : Ext w (W1.iter ⟨s.toArray⟩ (k + n)) := Ext.trans hx0 (ext_alloc _ _)
                have hr : (122 : Int) < r := by omega
                have hr2 : ¬ r < (97 : Int) := by omega
                clear hget hsg
                go_wp2_with fail
                go_ret
                exact ⟨by rw [HF.out]; rfl, hxi2⟩
            · have hnx := fun ty => next_none (P := Try.prog) W1 _ HS1.out ⟨s.toArray⟩ k ty (by rw [hsz]; exact hlt)
              have HF := Lib.hid (HN.out true (by have := HA.out; rwa [List.take_of_length_le (by omega)] at this))
              go_wp2_with fail
              go_ret
              exact ⟨by rw [HF.out]; rfl, hxi⟩
      · obtain ⟨q1, q2⟩ : ¬ p = 1 ∧ ¬ p = 2 := ⟨fun e => hp (.inl e), fun e => hp (.inr e)⟩
        have b1 : (p != 1) = true := by simpa using q1
        have b2 : (p != 2) = true := by simpa using q2
        have HF := Lib.hid (show grpOk (s, p) = false by unfold grpOk polOk; simp [q1, q2])
        clear q1 q2 hp
        go_enter Try.func64, Try.ntmps64
        go_wp2_with fail
        go_ret
        exact ⟨by rw [HF.out]; rfl, ext_alloc _ _⟩
end Go.Proofs.Ytocdifjdeifclaa
