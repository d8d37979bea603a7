/-
  The walk of StampNexts.
-/
import Derived.Test.YtnjnbjcibdeihaaDoorStLives
namespace Go.Proofs.YtnjnbjcibdeihaaDoor
open Go Go.RowKit Mono
set_option linter.unusedVariables false
set_option linter.unusedSimpArgs false

set_option maxHeartbeats 4000000 in
theorem stampNexts_walk (a b now site : Int) (w : World) :
    Calls Tryd.prog 3 #[stV a b, .int .i64 now, .int .i64 site] w fun e w' => e = .returned (.bool true) ∧ Ext w w' := by
  have HN := Lib.hid (fun w => stNext_any a b now site w)
  have HR := Lib.hid (fun w => refSNext_any a b now site w)
  have HL := Lib.hid (fun w => lives_any w)
  generalize snext a b now site = r at HN HR
  obtain ⟨⟨c, d⟩, k⟩ := r
  unfold snextV at HN HR
  unfold stV at HN HR ⊢
  dsimp only at HN HR
  go_enter Tryd.func3, Tryd.ntmps3
  go_wp2_with fail
  have x0 : Ext w (w.alloc (.cells #[.int .i64 a, .int .i64 b] 23)) := ext_alloc _ _
  refine (HN.out _).mono ?_
  rintro e w1 ⟨rfl, x1⟩
  have ba := (Blk.new w #[.int .i64 a, .int .i64 b] 23).ext x1
  have bac0 := ba.cell (i := 0) rfl
  have bac1 := ba.cell (i := 1) rfl
  have hx := Ext.trans x0 x1
  clear x1 x0
  have ba1 := ba.ext (ext_alloc w1 (.cells #[.int .i64 c, .int .i64 d] 23))
  have bs1 := Blk.new w1 #[.int .i64 c, .int .i64 d] 23
  have bac2 := ba1.cell (i := 0) rfl
  have bac3 := ba1.cell (i := 1) rfl
  replace hx := Ext.trans hx (ext_alloc w1 (.cells #[.int .i64 c, .int .i64 d] 23))
  go_wp2_with fail
  refine (HR.out _).mono ?_
  rintro e w2 ⟨rfl, x2⟩
  replace hx := Ext.trans hx x2
  have bs2 := bs1.ext x2
  clear x2
  have bs3 := bs2.ext (ext_alloc w2 (.cells #[.int .i64 c, .int .i64 d] 23))
  have bt3 := Blk.new w2 #[.int .i64 c, .int .i64 d] 23
  replace hx := Ext.trans hx (ext_alloc w2 (.cells #[.int .i64 c, .int .i64 d] 23))
  have c0 := bs3.cell (i := 0) rfl
  have c1 := bs3.cell (i := 1) rfl
  have c2 := bt3.cell (i := 0) rfl
  have c3 := bt3.cell (i := 1) rfl
  go_wp2_with fail
  refine (HL.out _).mono ?_
  rintro e w3 ⟨rfl, x3⟩
  go_wp2_with fail
  go_ret
  exact ⟨rfl, Ext.trans hx x3⟩
end Go.Proofs.YtnjnbjcibdeihaaDoor
