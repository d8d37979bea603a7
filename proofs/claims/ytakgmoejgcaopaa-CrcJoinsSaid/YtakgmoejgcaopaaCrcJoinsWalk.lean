/-
  The walk of CrcJoins.
-/
import Derived.Test.YtakgmoejgcaopaaCrcLaws
import Derived.Test.YtakgmoejgcaopaaCrcBurst
import Derived.Outline
namespace Go.Proofs.Ytakgmoejgcaopaa
open Go.RowKit Mono Crc
set_option linter.unusedVariables false
set_option maxHeartbeats 1000000 in
theorem noughts_any (x : BitVec 32) (b n : Nat) (w : World) (hn : n ≤ 65536) (hc : w.cell? ⟨b, 0, none⟩ = some (.int .i64 (n : Int))) :
    Calls Try.prog 20 #[.int .u32 (x.toNat : Int), .pointer (some ⟨b, 0, none⟩)] w fun e w' => e = .returned (.int .u32 ((stN (8 * n) x).toNat : Int)) ∧ w = w' := by
  have hx := x.isLt
  go_enter Try.func20, Try.ntmps20
  go_wp2
  go_loop [0, 6] (fun s i => ∃ j : Nat, j ≤ 8 * n ∧ i = .int .i64 j ∧ s = .int .u32 ((stN j x).toNat : Int)) (fun _ i => 8 * n - (intOf i).toNat)
  case atStart => exact ⟨0, by omega, rfl, rfl⟩
  case round =>
    obtain ⟨j, hj, rfl, rfl⟩ := hrel
    by_cases hlt : j < 8 * n
    · have HT := Lib.hid (show st (stN j x) = stN (j + 1) x from rfl)
      generalize stN j x = z at *
      have hz := z.isLt
      go_wp2
      go_round
      case rel => exact ⟨j + 1, by omega, by go_num, by rw [st_int, HT.out]⟩
      case measure => simp [intOf]; omega
    · have hj8 : j = 8 * n := by omega
      subst hj8
      go_wp2
      go_ret
      exact ⟨rfl, rfl⟩

set_option maxHeartbeats 1000000 in
theorem crcJoin_any (a b : BitVec 32) (n : Int) (w : World) (hn : -9223372036854775808 ≤ n ∧ n ≤ 9223372036854775807) :
    Calls Try.prog 17 #[.int .u32 (a.toNat : Int), .int .u32 (b.toNat : Int), .int .i64 n] w fun e w' =>
      e = .returned (.int .u32 (((if 0 ≤ n ∧ n ≤ 65536 then join a b n.toNat else 0#32).toNat : Nat) : Int)) ∧ Ext w w' := by
  obtain ⟨hn1, hn2⟩ := hn
  have ha := a.isLt
  have hb := b.isLt
  by_cases h : 0 ≤ n ∧ n ≤ 65536
  · rw [if_pos h]
    obtain ⟨h0, h1⟩ := h
    obtain ⟨k, rfl⟩ := Int.eq_ofNat_of_zero_le h0
    rw [Int.toNat_natCast]
    have hk : k ≤ 65536 := by omega
    have HJ := Lib.hid (show ~~~ (stN (8 * k) (~~~ a) ^^^ stN (8 * k) 4294967295#32 ^^^ ~~~ b) = join a b k from rfl)
    have hmf : ∀ (fn : Fn) (first cap : Array Value) (w : World), (Instr.makeFunc fn first cap).run Try.prog w = .ok (.func fn first cap) w := fun _ _ _ _ => rfl
    have hcell : (w.alloc (.cells #[.int .i64 (k : Int)] 3)).cell? ⟨w.heap.size, 0, none⟩ = some (.int .i64 (k : Int)) := by
      rw [World.cell?_alloc_at _ _ _ _ rfl]; rfl
    go_enter Try.func17, Try.ntmps17
    go_wp2_with fail
    rw [not_int]
    refine (noughts_any (~~~ a) _ k _ hk hcell).mono ?_
    rintro e w' ⟨rfl, rfl⟩
    go_wp2_with fail
    refine (noughts_any (BitVec.allOnes 32) _ k _ hk hcell).mono ?_
    rintro e w' ⟨rfl, rfl⟩
    go_wp2_with fail
    rw [bits_xor, not_int, bits_xor, not_int, HJ.out]
    go_ret
    exact ⟨rfl, ext_alloc _ _⟩
  · rw [if_neg h]
    have h' : n < 0 ∨ 0 ≤ n ∧ 65536 < n := by omega
    clear h
    rcases h' with h | ⟨h, h2⟩
    all_goals
      go_enter Try.func17, Try.ntmps17
      go_wp2_with fail
      go_ret
      exact ⟨rfl, ext_alloc _ _⟩
theorem crcJoin_in (a b : BitVec 32) (n : Nat) (w : World) (hn : n ≤ 65536) :
    Calls Try.prog 17 #[.int .u32 (a.toNat : Int), .int .u32 (b.toNat : Int), .int .i64 (n : Int)] w fun e w' => e = .returned (.int .u32 ((join a b n).toNat : Int)) ∧ Ext w w' := by
  have h := crcJoin_any a b (n : Int) w ⟨by omega, by omega⟩
  rwa [if_pos ⟨by omega, by omega⟩, Int.toNat_natCast] at h
theorem crcJoin_out (a b : BitVec 32) (n : Int) (w : World) (hn : -9223372036854775808 ≤ n ∧ n ≤ 9223372036854775807) (ho : ¬ (0 ≤ n ∧ n ≤ 65536)) :
    Calls Try.prog 17 #[.int .u32 (a.toNat : Int), .int .u32 (b.toNat : Int), .int .i64 n] w fun e w' => e = .returned (.int .u32 0) ∧ Ext w w' := by
  have h := crcJoin_any a b n w hn
  rwa [if_neg ho] at h

set_option maxHeartbeats 1000000 in
theorem crcJoins_walk (va : Value) (la : List UInt8) (vb : Value) (lb : List UInt8) (n : Int) (w : World) (ha : Bs w va la) (sa : la.length * 1 ≤ 140737488351232) (hb : Bs w vb lb) (sb : lb.length * 1 ≤ 140737488351232)
    (hn : -9223372036854775808 ≤ n ∧ n ≤ 9223372036854775807) :
    Calls Try.prog 7 #[va, vb, .int .i64 n] w fun e w' => e = .returned (.bool true) ∧ Ext w w' := by
  obtain ⟨A, c, rfl, h1, h2, _, _⟩ := ha.open_
  obtain ⟨A', c', rfl, h1', h2', _, _⟩ := hb.open_
  obtain ⟨hn1, hn2⟩ := hn
  unfold maxLen at h2 h2'
  by_cases hl : (5000 : Int) < (la.length : Int) + (lb.length : Int)
  · go_enter Try.func7, Try.ntmps7
    go_wp2_with fail
    refine (lives_any w).mono ?_
    rintro e w' ⟨rfl, he⟩
    go_wp2_with fail
    go_ret
    exact ⟨rfl, he⟩
  have hl' : (la.length : Int) + (lb.length : Int) ≤ 5000 := by omega
  clear hl
  have HJ := Lib.hid (join_sum la lb)
  have hlb : lb.length ≤ 65536 := by omega
  have hcases : n < 0 ∨ (0 ≤ n ∧ 65536 < n) ∨ (0 ≤ n ∧ n ≤ 65536) := by omega
  rcases hcases with h | ⟨h, h2⟩ | ⟨h, h2⟩
  all_goals
    go_enter Try.func7, Try.ntmps7
    go_wp2_with (first
      | (at_builtin
         refine wpList_append_bs _ rfl (.tmp 23) (.tmp 24) rfl (OwB.empty_ w (Nat.le_refl _)) (ha.ext (ext_alloc _ _)) rfl rfl ?_ ?_ ?_
         · simp; omega
         · simp
         intro v1 w1 hown1 hg1 hat1
         have hb1 : Below w.heap.size w w1 := Below.growB (ext_alloc w _) (OwB.empty_ w (Nat.le_refl _)) hg1 (Nat.le_refl _) (by simp)
         have hz1 := hb1.size)
      | (at_builtin
         refine wpList_append_bs _ rfl (.tmp 25) (.tmp 26) rfl hown1 (hb.ext hb1) rfl rfl ?_ ?_ ?_
         · simp; omega
         · exact hz1
         intro v2 w2 hown2 hg2 hat2
         have hb2 : Below w.heap.size w w2 := Below.growB hb1 hown1 hg2 (Nat.le_refl _) hz1))
    rw [List.nil_append] at hown2
    clear hown1 hg1 hg2 hat1 hat2
    refine (crcSum_any _ la _ (ha.ext hb2)).mono ?_
    rintro e w' ⟨rfl, rfl⟩
    go_wp2_with fail
    refine (crcSum_any _ lb _ (hb.ext hb2)).mono ?_
    rintro e w' ⟨rfl, rfl⟩
    go_wp2_with fail
    refine (crcJoin_in (sum la) (sum lb) lb.length _ hlb).mono ?_
    rintro e w3 ⟨rfl, hb3⟩
    rw [HJ.out]
    go_wp2_with fail
    refine (crcSum_any _ (la ++ lb) _ (hown2.bs.ext hb3)).mono ?_
    rintro e w' ⟨rfl, rfl⟩
    go_wp2_with fail
    refine (crcSum_any _ la _ (ha.ext (Ext.trans hb2 hb3))).mono ?_
    rintro e w' ⟨rfl, rfl⟩
    go_wp2_with fail
    refine (crcSum_any _ lb _ (hb.ext (Ext.trans hb2 hb3))).mono ?_
    rintro e w' ⟨rfl, rfl⟩
    go_wp2_with fail
    refine (crcJoin_out (sum la) (sum lb) _ _ (by omega) (by omega)).mono ?_
    rintro e w4 ⟨rfl, hb4⟩
    go_wp2_with fail
    refine (lives_any _).mono ?_
    rintro e w5 ⟨rfl, hb5⟩
    go_wp2_with fail
    go_ret
    exact ⟨rfl, ((Ext.trans hb2 hb3).trans hb4).trans hb5⟩
end Go.Proofs.Ytakgmoejgcaopaa
