/-
  The walks of layer 6, the second part: the document's Compare, Has, Next.
-/
import Derived.Test.YtfhahkklkkdkoaaVecFns
namespace Go.Proofs.Ytfhahkklkkdkoaa
open Go.RowKit Mono
set_option linter.unusedSimpArgs false
set_option linter.unusedVariables false

theorem refCompare_any (a b c d : Int) (w : World) : Calls Try.prog 17 #[vecV a b, vecV c d] w fun e w' => e = .returned (.int .i64 (vcompare a b c d)) ∧ Ext w w' := by
  unfold vecV
  go_enter Try.func17, Try.ntmps17
  go_wp2_with fail
  have ba := (Blk.new (w) #[.int .i64 a, .int .i64 b] 25).ext (ext_alloc _ (.cells #[.int .i64 c, .int .i64 d] 25))
  have bb := Blk.new (((w).alloc (.cells #[.int .i64 a, .int .i64 b] 25))) #[.int .i64 c, .int .i64 d] 25
  have hx : Ext w (((((w).alloc (.cells #[.int .i64 a, .int .i64 b] 25))).alloc (.cells #[.int .i64 c, .int .i64 d] 25))) := Ext.trans (ext_alloc _ _) (ext_alloc _ _)
  simp only [World.size_alloc] at bb
  obtain ⟨n, hnn⟩ : ∃ n, n = w.heap.size := ⟨_, rfl⟩
  rw [← hnn] at ba bb ⊢
  have HN := Lib.hid hnn
  clear hnn
  generalize ((((w).alloc (.cells #[.int .i64 a, .int .i64 b] 25))).alloc (.cells #[.int .i64 c, .int .i64 d] 25)) = W at *
  have bac0 := ba.cell (i := 0) rfl
  have baz0 := ba.thaw 0
  have bac1 := ba.cell (i := 1) rfl
  have baz1 := ba.thaw 1
  have bbc0 := bb.cell (i := 0) rfl
  have bbz0 := bb.thaw 0
  have bbc1 := bb.cell (i := 1) rfl
  have bbz1 := bb.thaw 1
  refine (refCovers_any a b c d _).mono ?_
  rintro e w' ⟨rfl, he⟩
  replace ba := ba.ext he
  replace bb := bb.ext he
  replace hx := Ext.trans hx he
  clear bac0 bac1 baz0 baz1 bbc0 bbc1 bbz0 bbz1 he
  have bac0 := ba.cell (i := 0) rfl
  have baz0 := ba.thaw 0
  have bac1 := ba.cell (i := 1) rfl
  have baz1 := ba.thaw 1
  have bbc0 := bb.cell (i := 0) rfl
  have bbz0 := bb.thaw 0
  have bbc1 := bb.cell (i := 1) rfl
  have bbz1 := bb.thaw 1
  have hsp := Lib.hid (vcompare_ref a b c d)
  cases h1 : vcovers a b c d
  · have hs2 := hsp.out
    simp only [h1, Bool.false_and, Bool.false_eq_true, if_false] at hs2
    have hs3 := Lib.hid hs2
    clear hs2
    go_wp2_with fail
    refine (refCovers_any c d a b _).mono ?_
    rintro e w' ⟨rfl, he⟩
    replace ba := ba.ext he
    replace bb := bb.ext he
    replace hx := Ext.trans hx he
    clear bac0 bac1 baz0 baz1 bbc0 bbc1 bbz0 bbz1 he
    have bac0 := ba.cell (i := 0) rfl
    have baz0 := ba.thaw 0
    have bac1 := ba.cell (i := 1) rfl
    have baz1 := ba.thaw 1
    have bbc0 := bb.cell (i := 0) rfl
    have bbz0 := bb.thaw 0
    have bbc1 := bb.cell (i := 1) rfl
    have bbz1 := bb.thaw 1

    cases h2 : vcovers c d a b
    · have hs4 := hs3.out
      simp only [h2, Bool.false_eq_true, if_false] at hs4
      have hs5 := Lib.hid hs4
      clear hs4
      go_wp2_with fail
      refine (refCovers_any a b c d _).mono ?_
      rintro e w' ⟨rfl, he⟩
      replace ba := ba.ext he
      replace bb := bb.ext he
      replace hx := Ext.trans hx he
      clear bac0 bac1 baz0 baz1 bbc0 bbc1 bbz0 bbz1 he
      have bac0 := ba.cell (i := 0) rfl
      have baz0 := ba.thaw 0
      have bac1 := ba.cell (i := 1) rfl
      have baz1 := ba.thaw 1
      have bbc0 := bb.cell (i := 0) rfl
      have bbz0 := bb.thaw 0
      have bbc1 := bb.cell (i := 1) rfl
      have bbz1 := bb.thaw 1

      rw [h1]
      go_wp2_with fail
      go_ret
      exact ⟨by rw [hs5.out]; rfl, hx⟩
    · have hs4 := hs3.out
      simp only [h2, if_true] at hs4
      have hs5 := Lib.hid hs4
      clear hs4
      go_wp2_with fail
      go_ret
      exact ⟨by rw [hs5.out]; rfl, hx⟩
  · go_wp2_with fail
    refine (refCovers_any c d a b _).mono ?_
    rintro e w' ⟨rfl, he⟩
    replace ba := ba.ext he
    replace bb := bb.ext he
    replace hx := Ext.trans hx he
    clear bac0 bac1 baz0 baz1 bbc0 bbc1 bbz0 bbz1 he
    have bac0 := ba.cell (i := 0) rfl
    have baz0 := ba.thaw 0
    have bac1 := ba.cell (i := 1) rfl
    have baz1 := ba.thaw 1
    have bbc0 := bb.cell (i := 0) rfl
    have bbz0 := bb.thaw 0
    have bbc1 := bb.cell (i := 1) rfl
    have bbz1 := bb.thaw 1

    cases h2 : vcovers c d a b
    · have hs2 := hsp.out
      simp only [h1, h2, Bool.and_false, Bool.false_eq_true, if_false, if_true] at hs2
      have hs3 := Lib.hid hs2
      clear hs2
      go_wp2_with fail
      refine (refCovers_any c d a b _).mono ?_
      rintro e w' ⟨rfl, he⟩
      replace ba := ba.ext he
      replace bb := bb.ext he
      replace hx := Ext.trans hx he
      clear bac0 bac1 baz0 baz1 bbc0 bbc1 bbz0 bbz1 he
      have bac0 := ba.cell (i := 0) rfl
      have baz0 := ba.thaw 0
      have bac1 := ba.cell (i := 1) rfl
      have baz1 := ba.thaw 1
      have bbc0 := bb.cell (i := 0) rfl
      have bbz0 := bb.thaw 0
      have bbc1 := bb.cell (i := 1) rfl
      have bbz1 := bb.thaw 1

      rw [h2]
      go_wp2_with fail
      refine (refCovers_any a b c d _).mono ?_
      rintro e w' ⟨rfl, he⟩
      replace ba := ba.ext he
      replace bb := bb.ext he
      replace hx := Ext.trans hx he
      clear bac0 bac1 baz0 baz1 bbc0 bbc1 bbz0 bbz1 he
      have bac0 := ba.cell (i := 0) rfl
      have baz0 := ba.thaw 0
      have bac1 := ba.cell (i := 1) rfl
      have baz1 := ba.thaw 1
      have bbc0 := bb.cell (i := 0) rfl
      have bbz0 := bb.thaw 0
      have bbc1 := bb.cell (i := 1) rfl
      have bbz1 := bb.thaw 1

      rw [h1]
      go_wp2_with fail
      go_ret
      exact ⟨by rw [hs3.out]; rfl, hx⟩
    · have hs2 := hsp.out
      simp only [h1, h2, Bool.and_true, if_true] at hs2
      have hs3 := Lib.hid hs2
      clear hs2
      go_wp2_with fail
      go_ret
      exact ⟨by rw [hs3.out]; rfl, hx⟩

/-- Is a change known? -/
def vhas (a b s q : Int) : Bool := if s = 1 then decide (1 ≤ q) && decide (q ≤ a) else if s = 2 then decide (1 ≤ q) && decide (q ≤ b) else false
theorem vecHas_any (a b s q : Int) (w : World) (hs : In64 s) : Calls Try.prog 22 #[vecV a b, .int .i64 s, .int .i64 q] w fun e w' => e = .returned (.bool (vhas a b s q)) ∧ Ext w w' := by
  unfold In64 at hs
  rcases (show s = 1 ∨ s = 2 ∨ s < 1 ∨ 2 < s by omega) with h1 | h1 | h1 | h1
  iterate 2
    · subst h1
      unfold vecV
      go_enter Try.func22, Try.ntmps22
      go_wp2_with fail
      all_goals go_ret
      all_goals exact ⟨by simp [vhas]; try omega, ext_alloc _ _⟩
  iterate 2
    · have h2 : s ≠ 1 := by omega
      have h3 : s ≠ 2 := by omega
      unfold vecV
      go_enter Try.func22, Try.ntmps22
      go_wp2_with fail
      all_goals first
        | omega
        | (simp_all; done)
        | (go_ret; exact ⟨by simp [vhas, h2, h3], ext_alloc _ _⟩)
theorem refHas_any (a b s q : Int) (w : World) (hs : In64 s) : Calls Try.prog 23 #[vecV a b, .int .i64 s, .int .i64 q] w fun e w' => e = .returned (.bool (vhas a b s q)) ∧ Ext w w' := by
  unfold In64 at hs
  rcases (show s = 1 ∨ s = 2 ∨ s < 1 ∨ 2 < s by omega) with h1 | h1 | h1 | h1
  iterate 2
    · subst h1
      unfold vecV
      go_enter Try.func23, Try.ntmps23
      go_wp2_with fail
      all_goals go_ret
      all_goals exact ⟨by simp [vhas]; try omega, ext_alloc _ _⟩
  iterate 2
    · have h2 : s ≠ 1 := by omega
      have h3 : s ≠ 2 := by omega
      unfold vecV
      go_enter Try.func23, Try.ntmps23
      go_wp2_with fail
      all_goals first
        | omega
        | (simp_all; done)
        | (go_ret; exact ⟨by simp [vhas, h2, h3], ext_alloc _ _⟩)
end Go.Proofs.Ytfhahkklkkdkoaa
