/-
  The walks of num.All and the document.s own.
-/
import Derived.Test.YtgcgolkoooilhaaNumLaws
import Derived.Test.YtgcgolkoooilhaaInts
import Derived.Test.YtgcgolkoooilhaaNumAll
namespace Go.Proofs.Ytgcgolkoooilhaa
open Go.RowKit Mono Num
set_option linter.unusedVariables false
set_option maxHeartbeats 400000 in
theorem numAll_any (v : Value) (l : List UInt8) (w : World) (hv : Bs w v l) (hl : l.length ≤ 1000000) :
    Calls Try.prog 16 #[v] w fun e w' => ∃ r, e = .returned (.tuple #[r, .int .i64 (((nall l).2 : Nat) : Int)]) ∧ OwI w' w.heap.size r (nall l).1 ∧ Ext w w' := by
  obtain ⟨A, c, rfl, h1, h2, _, _⟩ := hv.open_
  unfold maxLen at h2
  go_enter Try.func16, Try.ntmps16
  go_wp2_with fail
  go_step3
  go_wp2_with fail
  go_step3
  go_wp2_with fail
  go_loopw [2, 3, 4] (fun out bad at_ wr => ∃ (p m : Nat) (acc : List Int), p + m = l.length ∧ acc.length ≤ p ∧ at_ = .int .i64 p ∧ bad = .int .i64 0 ∧ OwI wr w.heap.size out acc ∧ nall l = thenAll acc (nall (l.drop p)) ∧ Ext w wr) (fun _ _ a _ => l.length - (intOf a).toNat)
  case atStart => exact ⟨0, l.length, [], by omega, Nat.zero_le _, rfl, rfl, OwI.nil_ _ _, (nall_start l).symm, Ext.refl _⟩
  case round =>
    obtain ⟨p, m, acc, hpm, hap, rfl, rfl, how, hall, hbr⟩ := hrel
    have HA := Lib.hid hall
    have HP := Lib.hid hpm
    have hpl : p ≤ l.length := by omega
    have hzr := hbr.size
    clear hall hpm
    by_cases hlt : p < l.length
    · have hd := (hv.ext hbr).from_ hpl
      rw [if_neg (show ¬ c = p by omega)] at hd
      have hG := numGet_any _ _ _ hd
      by_cases he : (nget (l.drop p)).2.2 = 0
      · obtain ⟨hk1, hk2, hk3⟩ := nget_room _ he
        rw [List.length_drop] at hk2
        have hst := nall_step (l.drop p) (by simp; omega) he
        rw [he] at hG
        rw [List.drop_drop] at hst
        have HS := Lib.hid hst
        clear hst he
        generalize (nget (l.drop p)).1 = n at *
        generalize (nget (l.drop p)).2.1 = k at *
        go_wp2_with fail
        refine hG.mono ?_
        rintro e w1 ⟨rfl, rfl⟩
        go_wp2_with (at_builtin; refine wpList_append_is _ rfl (.tmp 23) (.tmp 25) rfl (OwI.ext how (ext_alloc _ _)) (Is.alloc_ (l := [(n : Int)]) _ 3 _ rfl rfl (Nat.le_refl _) (show (1 : Nat) ≤ maxLen by decide)) rfl rfl (by simp; omega) (by simp; omega) ?_; intro v2 w2 hown2 hg2 hat2; have hb2 : Below w.heap.size w w2 := Below.growI (hbr.alloc hzr _) (OwI.ext how (ext_alloc _ _)) hg2 (Nat.le_refl _) (by simp; omega))
        go_roundw
        case rel => exact ⟨p + k, m - k, acc ++ [(n : Int)], by have := HP.out; omega, by simp; omega, by go_num, rfl, hown2, by rw [HA.out, HS.out, thenAll_thenAll], hb2⟩
        case measure => simp [intOf]; omega
      · have hb := nall_bad (l.drop p) (by simp; omega) he
        have he' : ((((nget (l.drop p)).2.2 : Nat) : Int) != 0) = true := by rw [bne_iff_ne]; omega
        have HB := Lib.hid hb
        have HE := Lib.hid he
        clear hb he
        go_wp2_with fail
        refine hG.mono ?_
        rintro e w1 ⟨rfl, rfl⟩
        go_wp2_with fail
        rw [Exit.noGoto_ret]
        go_ret2
        have hn : nall l = ([], (nget (l.drop p)).2.2) := by
          rw [HA.out, HB.out]; unfold thenAll; rw [if_neg HE.out]
        exact ⟨_, by rw [hn]; rfl, by rw [hn]; exact OwI.nil_ _ _, hbr⟩
    · have : p = l.length := by omega
      subst this
      go_wp2_with fail
      rw [Exit.noGoto_ret]
      go_ret2
      have hn : nall l = (acc, 0) := by
        rw [HA.out, List.drop_length]; simp [thenAll, nall_nil]
      exact ⟨_, by rw [hn]; rfl, by rw [hn]; exact how, hbr⟩

set_option maxHeartbeats 400000 in
theorem refAll_any (v : Value) (l : List UInt8) (w : World) (hv : Bs w v l) (hl : l.length ≤ 1000000) :
    Calls Try.prog 17 #[v] w fun e w' => ∃ r, e = .returned (.tuple #[r, .int .i64 (((nall l).2 : Nat) : Int)]) ∧ OwI w' w.heap.size r (nall l).1 ∧ Ext w w' := by
  obtain ⟨A, c, rfl, h1, h2, _, _⟩ := hv.open_
  unfold maxLen at h2
  go_enter Try.func17, Try.ntmps17
  go_wp2_with fail
  go_loopw [0, 4] (fun b out wr => ∃ (p m : Nat) (A' : Option Addr) (c' : Nat) (acc : List Int), p + m = l.length ∧ acc.length ≤ p ∧ b = .slice A' m c' ∧ Bs w (.slice A' m c') (l.drop p) ∧ OwI wr w.heap.size out acc ∧ nall l = thenAll acc (nall (l.drop p)) ∧ Ext w wr) (fun b _ _ => match b with | .slice _ n _ => n | _ => 0)
  case atStart => exact ⟨0, l.length, _, _, [], by omega, Nat.zero_le _, rfl, hv, OwI.nil_ _ _, (nall_start l).symm, Ext.refl _⟩
  case round =>
    obtain ⟨p, m, A', c', acc, hpm, hap, rfl, hd, how, hall, hbr⟩ := hrel
    have HA := Lib.hid hall
    have HP := Lib.hid hpm
    have hpl : p ≤ l.length := by omega
    have hml : m ≤ l.length := by omega
    have hzr := hbr.size
    obtain ⟨_, _, hx, r1, r2, _, _⟩ := hd.open_
    have hc' : m ≤ c' := by injection hx; rw [List.length_drop] at r1; omega
    have hcm : c' ≤ 9223372036854775807 := by injection hx; unfold maxLen at r2; omega
    clear hall hx r1 r2
    by_cases hlt : 0 < m
    · have hlt' : p < l.length := by omega
      clear hpm
      have hG := refGet_any _ _ _ (hd.ext hbr)
      by_cases he : (nget (l.drop p)).2.2 = 0
      · obtain ⟨hk1, hk2, hk3⟩ := nget_room _ he
        rw [List.length_drop] at hk2
        have hkm : (nget (l.drop p)).2.1 ≤ m := by have := HP.out; omega
        have hst := nall_step (l.drop p) (by simp; omega) he
        rw [he] at hG
        have hd2 := hd.from_ hkm
        rw [List.drop_drop] at hst hd2
        have HS := Lib.hid hst
        clear hst he
        generalize (nget (l.drop p)).1 = n at *
        generalize (nget (l.drop p)).2.1 = k at *
        go_wp2_with fail
        refine hG.mono ?_
        rintro e w1 ⟨rfl, rfl⟩
        go_wp2_with (at_builtin; refine wpList_append_is _ rfl (.tmp 20) (.tmp 22) rfl (OwI.ext how (ext_alloc _ _)) (Is.alloc_ (l := [(n : Int)]) _ 3 _ rfl rfl (Nat.le_refl _) (show (1 : Nat) ≤ maxLen by decide)) rfl rfl (by simp; omega) (by simp; omega) ?_; intro v2 w2 hown2 hg2 hat2; have hb2 : Below w.heap.size w w2 := Below.growI (hbr.alloc hzr _) (OwI.ext how (ext_alloc _ _)) hg2 (Nat.le_refl _) (by simp; omega))
        go_roundw
        case rel => exact ⟨p + k, m - k, _, _, acc ++ [(n : Int)], by have := HP.out; omega, by simp; omega, rfl, hd2, hown2, by rw [HA.out, HS.out, thenAll_thenAll], hb2⟩
        case measure => simp; omega
      · have hb := nall_bad (l.drop p) (by simp; omega) he
        have he' : ((((nget (l.drop p)).2.2 : Nat) : Int) != 0) = true := by rw [bne_iff_ne]; omega
        have HB := Lib.hid hb
        have HE := Lib.hid he
        clear hb he
        go_wp2_with fail
        refine hG.mono ?_
        rintro e w1 ⟨rfl, rfl⟩
        go_wp2_with fail
        go_ret2
        have hn : nall l = ([], (nget (l.drop p)).2.2) := by
          rw [HA.out, HB.out]; unfold thenAll; rw [if_neg HE.out]
        exact ⟨_, by rw [hn]; rfl, by rw [hn]; exact OwI.nil_ _ _, hbr⟩
    · have hpl' : p = l.length := by omega
      subst hpl'
      clear hpm
      go_wp2_with fail
      go_ret2
      have hn : nall l = (acc, 0) := by
        rw [HA.out, List.drop_length]; simp [thenAll, nall_nil]
      exact ⟨_, by rw [hn]; rfl, by rw [hn]; exact how, hbr⟩
end Go.Proofs.Ytgcgolkoooilhaa
