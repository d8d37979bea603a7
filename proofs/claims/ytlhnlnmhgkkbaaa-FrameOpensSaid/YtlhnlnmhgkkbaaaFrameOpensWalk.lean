/-
  The walk of FrameOpens.
-/
import Derived.Test.YtlhnlnmhgkkbaaaFrameLives
namespace Go.Proofs.Ytlhnlnmhgkkbaaa
open Go Go.RowKit Mono Num Crc
set_option linter.unusedSimpArgs false
set_option linter.unusedVariables false

set_option maxHeartbeats 2000000 in
theorem frameOpens_walk (v : Value) (l : List UInt8) (w : World) (hv : Bs w v l) :
    Calls Try.prog 4 #[v] w fun e w' => e = .returned (.bool true) ∧ Ext w w' := by
  obtain ⟨A, c, rfl, h1, h2, _, _⟩ := hv.open_
  unfold maxLen at h2
  by_cases hl : 20000 < l.length
  · go_enter Try.func4, Try.ntmps4
    go_wp2_with fail
    refine (lives_any _).mono ?_
    rintro e w' ⟨rfl, he⟩
    go_wp2_with fail
    go_ret
    exact ⟨rfl, he⟩
  · go_enter Try.func4, Try.ntmps4
    go_wp2_with fail
    obtain ⟨b, n, er, ho⟩ : ∃ b n er, fopen l = (b, n, er) := ⟨_, _, _, rfl⟩
    obtain ⟨q, m, f, hq⟩ : ∃ q m f, frows l = (q, m, f) := ⟨_, _, _, rfl⟩
    have HO := Lib.hid (fun w hw => fOpen_any (.slice A l.length c) l w hw (by omega))
    have HP := Lib.hid (fun w hw => rOpen_any (.slice A l.length c) l w hw (by omega))
    have HQ := Lib.hid (fun w hw => fRows_any (.slice A l.length c) l w hw (by omega))
    have HR := Lib.hid (fun w hw => rRows_any (.slice A l.length c) l w hw (by omega))
    rw [ho] at HO HP
    rw [hq] at HQ HR
    clear ho hq
    unfold openV at HO HP
    refine (HO.out _ hv).mono ?_
    rintro e w1 ⟨r1, rfl, k1, x1⟩
    clear HO
    replace k1 := k1.bs
    go_wp2_with fail
    refine (HP.out _ (hv.ext x1)).mono ?_
    rintro e w2 ⟨r2, rfl, k2, x2⟩
    clear HP
    replace k2 := k2.bs
    replace k1 := k1.ext x2
    replace x1 := Ext.trans x1 x2
    clear x2
    go_wp2_with fail
    refine (HQ.out _ (hv.ext x1)).mono ?_
    rintro e w3 ⟨r3, rfl, k3, x2⟩
    clear HQ
    replace k1 := k1.ext x2
    replace k2 := k2.ext x2
    replace x1 := Ext.trans x1 x2
    clear x2
    go_wp2_with fail
    refine (HR.out _ (hv.ext x1)).mono ?_
    rintro e w4 ⟨r4, rfl, k4, x2⟩
    clear HR
    replace k1 := k1.ext x2
    replace k2 := k2.ext x2
    replace k3 := k3.ext x2
    replace x1 := Ext.trans x1 x2
    clear x2
    have c1 := k1.str_ (P := Try.prog) 22 9 5 Try.underlying22 Try.underlying5 Try.underlying9
    have c2 := k2.str_ (P := Try.prog) 22 9 5 Try.underlying22 Try.underlying5 Try.underlying9
    unfold strV at c1 c2
    clear k1 k2
    go_wp2_with fail
    have hs : sameB q q = true := by unfold sameB; exact beq_self_eq_true q
    refine (rSame_any _ _ q q _ k3 k4).mono ?_
    rintro e w5 ⟨rfl, x2⟩
    rw [hs]
    go_wp2_with fail
    refine (lives_any _).mono ?_
    rintro e w6 ⟨rfl, x3⟩
    go_wp2_with fail
    go_ret
    exact ⟨rfl, Ext.trans (Ext.trans x1 x2) x3⟩
end Go.Proofs.Ytlhnlnmhgkkbaaa
