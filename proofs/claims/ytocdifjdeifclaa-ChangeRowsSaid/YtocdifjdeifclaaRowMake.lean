/-
  Layer 10: bare rows, by the code and by the document.
-/
import Derived.Test.YtocdifjdeifclaaRowGood
namespace Go.Proofs.Ytocdifjdeifclaa
open Go Go.RowKit Mono Num
set_option linter.unusedVariables false
set_option linter.unusedSimpArgs false
set_option maxRecDepth 100000

theorem infoCl : (Try.prog.info? 54).map (fun i => (i.zero, i.size, i.bytes)) = some (some (.agg #[.int .i64 0, .int .i64 0, .int .i64 0, .int .i64 0, .bool false, .string ⟨#[]⟩, .int .i64 0, .int .i64 0]), 8, 72) := by kernel_rfl
theorem infoRw : (Try.prog.info? 47).map (fun i => (i.zero, i.size, i.bytes)) = some (some (.agg #[.string ⟨#[]⟩, .slice none 0 0]), 2, 40) := by kernel_rfl
theorem pgood_len4 {gs : List Grp} (h : pgood gs = 0) : 0 < gs.length ∧ gs.length ≤ 4 := by
  unfold pgood at h
  by_cases h0 : gs.length = 0
  · rw [if_pos h0] at h; cases h
  · rw [if_neg h0] at h
    by_cases h4 : 4 < gs.length
    · rw [if_pos h4] at h; cases h
    · omega
theorem made_cells (n : Nat) (h : n ≤ 4) : (madeCells (Value.agg #[.int .i64 0, .int .i64 0, .int .i64 0, .int .i64 0, .bool false, .string ⟨#[]⟩, .int .i64 0, .int .i64 0]).cells (n * 8)).toList = clsC (List.replicate n Cl.nought) := by
  have hn : n = 0 ∨ n = 1 ∨ n = 2 ∨ n = 3 ∨ n = 4 := by omega
  rcases hn with rfl | rfl | rfl | rfl | rfl
  · simp [madeCells, Value.cells, clsC, clC, Cl.nought, strV, List.range, List.range.loop, List.replicate]
  · simp [madeCells, Value.cells, clsC, clC, Cl.nought, strV, List.range, List.range.loop, List.replicate]
  · simp [madeCells, Value.cells, clsC, clC, Cl.nought, strV, List.range, List.range.loop, List.replicate]
  · simp [madeCells, Value.cells, clsC, clC, Cl.nought, strV, List.range, List.range.loop, List.replicate]
  · simp [madeCells, Value.cells, clsC, clC, Cl.nought, strV, List.range, List.range.loop, List.replicate]
theorem row_le {w : World} {base base' sz n : Nat} {e : TypeId} {v : Value} {xs : List Value} (h : w.ownsRow base e sz v n xs) (hb : base' ≤ base) : w.ownsRow base' e sz v n xs :=
  ⟨h.1, h.2.imp id (fun ⟨g, cap, cur, h1, h2, h3⟩ => ⟨g, cap, cur, h1, Nat.le_trans hb h2, h3⟩)⟩
theorem nought_good (p : Int) (h : p = 1 ∨ p = 2) : cellgood p Cl.nought = true := by
  rcases h with rfl | rfl <;> decide
/-- Cells in memory of their own. -/
def ClsO (w0 w : World) (v : Value) (cs : List Cl) : Prop := w.ownsRow w0.heap.size 54 8 v cs.length (clsC cs)
theorem ClsO.fl {w0 w : World} {v : Value} {cs : List Cl} (h : ClsO w0 w v cs) : Fl w v cs.length (clsC cs) := fl_of_row h
theorem ClsO.ext {w0 w w' : World} {v : Value} {cs : List Cl} (h : ClsO w0 w v cs) (he : Ext w w') : ClsO w0 w' v cs := row_apart (row := none) h ⟨he.os, he.tape, he.output, he.size, fun k hk _ => he.block k hk⟩ (fun j C fz e => by cases e)
theorem zip_rep : ∀ (gs : List Grp) (c : Cl), gs.zip (List.replicate gs.length c) = gs.map fun g => (g, c)
  | [], _ => rfl
  | g :: gs, c => by rw [List.length_cons, List.replicate_succ, List.zip_cons_cons, zip_rep gs c]; rfl
theorem rgood_bare {gs : List Grp} {key : List UInt8} (hp : pgood gs = 0) (hpp : ∀ g ∈ gs, g.2 = 1 ∨ g.2 = 2) (h1 : key ≠ []) (h2 : key.length ≤ 32) : rgood gs key (List.replicate gs.length Cl.nought) = 0 := by
  unfold rgood
  rw [if_neg (by omega), if_neg h1, if_neg (by omega), if_neg (by simp), if_pos]
  rw [zip_rep, List.all_map, List.all_eq_true]
  exact fun g hg => nought_good _ (hpp g hg)

set_option maxHeartbeats 4000000 in
theorem rowNew_any (v : Value) (gs : List Grp) (key : List UInt8) (w : World) (hg : Gs w v gs) (hp : pgood gs = 0) (hpp : ∀ g ∈ gs, g.2 = 1 ∨ g.2 = 2) (h1 : key ≠ []) (h2 : key.length ≤ 32) :
    Calls Try.prog 29 #[v, strV key] w fun e w' => ∃ vc, e = .returned (.tuple #[.agg #[strV key, vc], .int .i64 0]) ∧ ClsO w w' vc (List.replicate gs.length Cl.nought) ∧ Ext w w' := by
  obtain ⟨i0, hi0, hz0, hz1, hz2⟩ := info_parts infoCl
  obtain ⟨A, c, rfl, g1, g2, g3, g4⟩ := hg.at_
  have hn := pgood_len4 hp
  have HG := Lib.hid hg
  have HRG := Lib.hid (rgood_bare hp hpp h1 h2)
  have HMC := Lib.hid (made_cells gs.length hn.2)
  have hsz := strV_size key
  have h4 := hn.2
  clear g3 g4 hg hp hpp hn
  unfold strV
  go_enter Try.func29, Try.ntmps29
  go_upto_region 1 with (fail)
  have bo := Blk.new w #[.string ⟨#[]⟩, .slice none 0 0] 47
  have hx := ext_alloc w (.cells #[.string ⟨#[]⟩, .slice none 0 0] 47)
  obtain ⟨no, hno⟩ : ∃ n, n = w.heap.size := ⟨_, rfl⟩
  have hw1 : w.heap.size ≤ (w.alloc (.cells #[.string ⟨#[]⟩, .slice none 0 0] 47)).heap.size := hx.size
  rw [← hno] at bo
  rw [← hno]
  have HNO := Lib.hid (show w.heap.size ≤ no by omega)
  clear hno
  generalize w.alloc (.cells #[.string ⟨#[]⟩, .slice none 0 0] 47) = W at *
  go_upto_region 2 with (at_make; refine wpList_make_full _ rfl (.tmp 10) (.tmp 10) 45 rfl W.heap.size 54 i0 _ 8 Try.underlying45 hi0 hz0 hz1 .i64 .i64 _ _ gs.length rfl rfl rfl rfl (by rw [hz2]; omega) (by unfold maxLen; omega) (Nat.le_refl _) ?_; intro w3 hown hgr)
  rw [HMC.out] at hown
  have xw3 : Ext W w3 := Below.grown (Ext.refl _) hgr (Nat.le_refl _) (fun k e => by cases e)
  have bm := Blk.new w3 #[.string ⟨key.toArray⟩, .slice (some ⟨W.heap.size, 0, none⟩) gs.length gs.length] 47
  have xw4 := ext_alloc w3 (.cells #[.string ⟨key.toArray⟩, .slice (some ⟨W.heap.size, 0, none⟩) gs.length gs.length] 47)
  have hcl : ClsO w (w3.alloc (.cells #[.string ⟨key.toArray⟩, .slice (some ⟨W.heap.size, 0, none⟩) gs.length gs.length] 47)) (.slice (some ⟨W.heap.size, 0, none⟩) gs.length gs.length) (List.replicate gs.length Cl.nought) := by
    have h := (row_le hown hw1).alloc (.cells #[.string ⟨key.toArray⟩, .slice (some ⟨W.heap.size, 0, none⟩) gs.length gs.length] 47)
    unfold ClsO
    rw [List.length_replicate]
    exact h
  have hx4 := (hx.trans xw3).trans xw4
  have bo4 := (bo.ext xw3).ext xw4
  have m0 := bm.cell (i := 0) rfl
  have m1 := bm.cell (i := 1) rfl
  have hnm : no ≠ w3.heap.size := by have := (bo.ext xw3).lt; omega
  have HNB := Lib.hid (show W.heap.size ≠ no by have := bo.lt; omega)
  clear hgr xw3 xw4 hown hx bo hw1
  generalize w3.heap.size = nm at *
  generalize W.heap.size = nb at *
  generalize w3.alloc (.cells #[.string ⟨key.toArray⟩, .slice (some ⟨nb, 0, none⟩) gs.length gs.length] 47) = W4 at *
  go_wp2_with fail
  refine (rowGood_any _ gs key _ (List.replicate gs.length Cl.nought) W4 (HG.out.ext hx4) ?_).mono ?_
  · have h := hcl.fl
    exact h
  rintro e w5 ⟨rfl, x5⟩
  rw [HRG.out]
  have HCL := Lib.hid (hcl.ext x5)
  have HX := Lib.hid (hx4.trans x5)
  have bo5 := bo4.ext x5
  have bm5 := bm.ext x5
  clear m0 m1 bo4 bm hcl hx4 x5
  have m0 := bm5.cell (i := 0) rfl
  have m1 := bm5.cell (i := 1) rfl
  have z0 := bo5.thaw 0
  have z1 := bo5.thaw 1
  have y0 := bo5.cell (i := 0) rfl
  have y1 := bo5.cell (i := 1) rfl
  have br := (bo5.set 0 (.string ⟨key.toArray⟩)).set 1 (.slice (some ⟨nb, 0, none⟩) gs.length gs.length)
  simp only [List.set_cons_succ, List.set_cons_zero] at br
  have r0 := br.cell (i := 0) rfl
  have r1 := br.cell (i := 1) rfl
  have HFX := Lib.hid ((HX.out.setCell (p := ⟨no, 0, none⟩) HNO.out (.string ⟨key.toArray⟩)).setCell (p := ⟨no, 1, none⟩) HNO.out (.slice (some ⟨nb, 0, none⟩) gs.length gs.length))
  have hnob : nb ≠ no := HNB.out
  have HFC : Hid (ClsO w ((w5.setCell ⟨no, 0, none⟩ (.string ⟨key.toArray⟩)).setCell ⟨no, 1, none⟩ (.slice (some ⟨nb, 0, none⟩) gs.length gs.length)) (.slice (some ⟨nb, 0, none⟩) gs.length gs.length) (List.replicate gs.length Cl.nought)) := Lib.hid (by
    have h1 : w5.grownBy (w5.setCell ⟨no, 0, none⟩ (.string ⟨key.toArray⟩)) (some no) := gb_setC _ _ _ _
    have h2 : (w5.setCell ⟨no, 0, none⟩ (.string ⟨key.toArray⟩)).grownBy ((w5.setCell ⟨no, 0, none⟩ (.string ⟨key.toArray⟩)).setCell ⟨no, 1, none⟩ (.slice (some ⟨nb, 0, none⟩) gs.length gs.length)) (some no) := gb_setC _ _ _ _
    exact (World.ownsRow.kept HCL.out h1 (.inr (fun e => by injection e with e; exact hnob e))).kept h2 (.inr (fun e => by injection e with e; exact hnob e)))
  clear br bo5 bm5
  go_wp2_with fail
  exact bodyPost_ret (v := .tuple #[.agg #[.string ⟨key.toArray⟩, .slice (some ⟨nb, 0, none⟩) gs.length gs.length], .int .i64 0]) (by simp [results, Try.results29, r0, r1, go_sem]) rfl ⟨_, rfl, HFC.out, HFX.out⟩
theorem row_slice' {W : World} {z k sz : Nat} {e : TypeId} {v : Value} {xs : List Value} (h : W.ownsRow z e sz v k xs) : ∃ A n c, v = .slice A n c := by
  rcases h.2 with ⟨rfl, _⟩ | ⟨g, cap, cur, rfl, _⟩
  · exact ⟨_, _, _, rfl⟩
  · exact ⟨_, _, _, rfl⟩
/-- What stands while the document's bare row is made. -/
structure EmJ (w : World) (z n4 n5 k : Nat) (key : List UInt8) (vc : Value) (W : World) : Prop where
  ext : Ext w W
  size : z ≤ W.heap.size
  b4 : Blk W n4 [.string ⟨#[]⟩, .slice none 0 0]
  b5 : Blk W n5 [.string ⟨key.toArray⟩, vc]
  row : W.ownsRow z 54 8 vc k (clsC (List.replicate k Cl.nought))
theorem clsC_rep (k : Nat) : clsC (List.replicate (k + 1) Cl.nought) = clsC (List.replicate k Cl.nought) ++ [.int .i64 0, .int .i64 0, .int .i64 0, .int .i64 0, .bool false, .string ⟨#[]⟩, .int .i64 0, .int .i64 0] := by
  rw [List.replicate_succ']
  unfold clsC
  rw [List.flatMap_append]
  congr 1
theorem Blk.kept {w w' : World} {b : Nat} {L : List Value} {row : Option Nat} (h : Blk w b L) (hg : w.grownBy w' row) (hn : row ≠ some b) : Blk w' b L := by
  have hl := h.lt
  obtain ⟨T, h⟩ := h
  exact ⟨T, (hg.block b hl (fun e => hn e.symm)).trans h⟩
theorem EmJ.app {w W9 w3 : World} {z n4 n5 k : Nat} {key : List UInt8} {vc v' : Value} {tmp : Obj} (h : EmJ w z n4 n5 k key vc W9) (hz : w.heap.size ≤ n5) (h4 : n4 < z) (h5 : n5 < z) (hn : n4 ≠ n5) (hw : w.heap.size ≤ z)
    (hown : w3.ownsRow z 54 8 v' (k + 1) (clsC (List.replicate k Cl.nought) ++ [.int .i64 0, .int .i64 0, .int .i64 0, .int .i64 0, .bool false, .string ⟨#[]⟩, .int .i64 0, .int .i64 0])) (hg : (W9.alloc tmp).grownBy w3 vc.ownBlock) :
    Blk w3 n5 [.string ⟨key.toArray⟩, vc] ∧ EmJ w z n4 n5 (k + 1) key v' (w3.setCell ⟨n5, 1, none⟩ v') := by
  have hge := World.ownsRow.lt h.row
  have hs := hg.size
  rw [World.size_alloc] at hs
  have hz9 := h.size
  have hr : ∀ b, b < z → vc.ownBlock ≠ some b := fun b hb e => by have := (hge _ e).1; omega
  have e1 := ext_alloc W9 tmp
  have b4 := (h.b4.ext e1).kept hg (hr _ h4)
  have b5 := (h.b5.ext e1).kept hg (hr _ h5)
  refine ⟨b5, ⟨(Below.grown (h.ext.trans e1) hg (h.ext.trans e1).size (fun j ej => by have := (hge j ej).1; omega)).setCell (p := ⟨n5, 1, none⟩) hz _, by simp; omega, b4.apart (a := ⟨n5, 1, none⟩) _ hn, ?_, ?_⟩⟩
  · have h6 := b5.set 1 v'
    simp only [List.set_cons_succ, List.set_cons_zero] at h6
    exact h6
  · rw [clsC_rep]
    refine hown.kept (gb_setC _ _ _ _) ?_
    rcases hv : v'.ownBlock with _ | j
    · exact .inl rfl
    · refine .inr fun e => ?_
      injection e with e
      have := (World.ownsRow.lt hown j hv).1
      omega
set_option maxHeartbeats 4000000 in
theorem empty_any (v : Value) (gs : List Grp) (key : List UInt8) (w : World) (hg : Gs w v gs) (hl : gs.length ≤ 4) :
    Calls Try.prog 31 #[v, strV key] w fun e w' => ∃ vc, e = .returned (.agg #[strV key, vc]) ∧ ClsO w w' vc (List.replicate gs.length Cl.nought) ∧ Ext w w' := by
  obtain ⟨i0, hi0, hz0, hz1, hz2⟩ := info_parts infoCl
  have HI0 := Lib.hid hi0
  have HZ0 := Lib.hid hz0
  have HZ1 := Lib.hid hz1
  have HZ2 := Lib.hid hz2
  obtain ⟨A, c, rfl, g1, g2, g3, g4⟩ := hg.at_
  clear g3 g4 hg hi0 hz0 hz1 hz2
  unfold strV
  go_enter Try.func31, Try.ntmps31
  go_upto_region 2 with (fail)
  have b4 := (Blk.new w #[.string ⟨#[]⟩, .slice none 0 0] 47).ext (ext_alloc _ (.cells #[.string ⟨key.toArray⟩, .slice none 0 0] 47))
  have b5 := Blk.new (w.alloc (.cells #[.string ⟨#[]⟩, .slice none 0 0] 47)) #[.string ⟨key.toArray⟩, .slice none 0 0] 47
  have hx := (ext_alloc w (.cells #[.string ⟨#[]⟩, .slice none 0 0] 47)).trans (ext_alloc _ (.cells #[.string ⟨key.toArray⟩, .slice none 0 0] 47))
  simp only [World.size_alloc] at b5
  obtain ⟨n4, hn4⟩ : ∃ n, n = w.heap.size := ⟨_, rfl⟩
  obtain ⟨n5, hn5⟩ : ∃ n, n = w.heap.size + 1 := ⟨_, rfl⟩
  rw [← hn4] at b4
  rw [← hn5] at b5
  rw [← hn5, ← hn4]
  have hne : n4 ≠ n5 := by omega
  have HN4 := Lib.hid (show w.heap.size ≤ n4 by omega)
  have HN5 := Lib.hid (show w.heap.size ≤ n5 by omega)
  clear hn4 hn5
  generalize (w.alloc (.cells #[.string ⟨#[]⟩, .slice none 0 0] 47)).alloc (.cells #[.string ⟨key.toArray⟩, .slice none 0 0] 47) = W at *
  have H4 := Lib.hid b4.lt
  have H5 := Lib.hid b5.lt
  have HWZ := Lib.hid hx.size
  obtain ⟨z, hz⟩ : ∃ z, z = W.heap.size := ⟨_, rfl⟩
  rw [← hz] at H4 H5 HWZ
  have HJ0 : Hid (EmJ w z n4 n5 0 key (.slice none 0 0) W) := Lib.hid ⟨hx, by omega, b4, b5, ⟨rfl, .inl ⟨rfl, rfl⟩⟩⟩
  clear hz b4 b5 hx
  go_wp2_with fail
  go_loopw [6] (fun i wr => ∃ (k : Nat) (vc : Value), i = .int .i64 k ∧ k ≤ gs.length ∧ Hid (EmJ w z n4 n5 k key vc wr)) (fun i _ => gs.length - (intOf i).toNat)
  case atStart => exact ⟨0, _, rfl, Nat.zero_le _, HJ0⟩
  case round =>
    obtain ⟨k, vc, rfl, hk, hj⟩ := hrel
    clear HJ0
    obtain ⟨Av, nv, cv, rfl⟩ : ∃ A n c, vc = .slice A n c := by
      rcases hj.out.row.2 with ⟨rfl, _⟩ | ⟨g, cap, cur, rfl, _⟩
      · exact ⟨_, _, _, rfl⟩
      · exact ⟨_, _, _, rfl⟩
    by_cases hlt : k < gs.length
    · have c1 := (hj.out.b5.ext (ext_alloc wr (.cells #[.int .i64 0, .int .i64 0, .int .i64 0, .int .i64 0, .bool false, .string ⟨#[]⟩, .int .i64 0, .int .i64 0] 54))).cell (i := 1) rfl
      have d1 := hj.out.b5.cell (i := 1) rfl
      have hown := hj.out.row.alloc (.cells #[.int .i64 0, .int .i64 0, .int .i64 0, .int .i64 0, .bool false, .string ⟨#[]⟩, .int .i64 0, .int .i64 0] 54)
      have bl := Blk.new wr #[.int .i64 0, .int .i64 0, .int .i64 0, .int .i64 0, .bool false, .string ⟨#[]⟩, .int .i64 0, .int .i64 0] 54
      have hF : Fl (wr.alloc (.cells #[.int .i64 0, .int .i64 0, .int .i64 0, .int .i64 0, .bool false, .string ⟨#[]⟩, .int .i64 0, .int .i64 0] 54)) (.slice (some ⟨wr.heap.size, 0, none⟩) 1 1) 1 [.int .i64 0, .int .i64 0, .int .i64 0, .int .i64 0, .bool false, .string ⟨#[]⟩, .int .i64 0, .int .i64 0] := ⟨_, 1, rfl, Nat.le_refl _, by decide, by simp, fun _ => ⟨_, 0, rfl, bl.lt, fun j u hu => by rw [Nat.zero_add]; exact bl.cell (i := j) hu⟩⟩
      have h1c : ∀ u ∈ ([.int .i64 0, .int .i64 0, .int .i64 0, .int .i64 0, .bool false, .string ⟨#[]⟩, .int .i64 0, .int .i64 0] : List Value), u.oneCell' = true := by
        intro u hu
        simp only [List.mem_cons, List.not_mem_nil, or_false] at hu
        rcases hu with rfl | rfl | rfl | rfl | rfl | rfl | rfl | rfl <;> rfl
      have hzz : z ≤ (wr.alloc (.cells #[.int .i64 0, .int .i64 0, .int .i64 0, .int .i64 0, .bool false, .string ⟨#[]⟩, .int .i64 0, .int .i64 0] 54)).heap.size := by have := hj.out.size; simp; omega
      clear bl
      go_wp2_with (at_builtin; refine wpList_append_fl rfl (.tmp 16) (.tmp 18) 45 rfl z 54 i0 _ 8 72 Try.underlying45 HI0.out HZ0.out HZ1.out HZ2.out rfl (by decide) hown hF rfl rfl rfl h1c (by unfold maxLen; omega) (by omega) hzz ?_; intro v' w3 hown' hg hat; obtain ⟨A3, n3, c3, rfl⟩ := row_slice' hown'; obtain ⟨b5, hj'⟩ := hj.out.app HN5.out H4.out H5.out hne HWZ.out hown' hg; clear c1 d1 hown hF h1c hzz hg hat hown'; have e1 := b5.cell (i := 1) rfl; have z1 := b5.thaw 1; have HJ' := Lib.hid hj'; clear hj' b5)
      clear e1 z1
      go_roundw
      case rel => exact ⟨k + 1, _, by go_num, hlt, HJ'⟩
      case measure => simp [intOf]; omega
    · obtain rfl : k = gs.length := by omega
      have c0 := hj.out.b5.cell (i := 0) rfl
      have c1 := hj.out.b5.cell (i := 1) rfl
      have b4 := hj.out.b4
      have z0 := b4.thaw 0
      have z1 := b4.thaw 1
      have y0 := b4.cell (i := 0) rfl
      have y1 := b4.cell (i := 1) rfl
      have br := (b4.set 0 (.string ⟨key.toArray⟩)).set 1 (.slice Av nv cv)
      simp only [List.set_cons_succ, List.set_cons_zero] at br
      have r0 := br.cell (i := 0) rfl
      have r1 := br.cell (i := 1) rfl
      have HFX := Lib.hid ((hj.out.ext.setCell (p := ⟨n4, 0, none⟩) HN4.out (.string ⟨key.toArray⟩)).setCell (p := ⟨n4, 1, none⟩) HN4.out (.slice Av nv cv))
      have HFC : Hid (ClsO w ((wr.setCell ⟨n4, 0, none⟩ (.string ⟨key.toArray⟩)).setCell ⟨n4, 1, none⟩ (.slice Av nv cv)) (.slice Av nv cv) (List.replicate gs.length Cl.nought)) := Lib.hid (by
        have h1 : wr.grownBy (wr.setCell ⟨n4, 0, none⟩ (.string ⟨key.toArray⟩)) (some n4) := gb_setC _ _ _ _
        have h2 : (wr.setCell ⟨n4, 0, none⟩ (.string ⟨key.toArray⟩)).grownBy ((wr.setCell ⟨n4, 0, none⟩ (.string ⟨key.toArray⟩)).setCell ⟨n4, 1, none⟩ (.slice Av nv cv)) (some n4) := gb_setC _ _ _ _
        have hne4 : (Value.slice Av nv cv).ownBlock = none ∨ (Value.slice Av nv cv).ownBlock ≠ some n4 := by
          rcases hv : (Value.slice Av nv cv).ownBlock with _ | j
          · exact .inl rfl
          · refine .inr fun e => ?_
            injection e with e
            have := (World.ownsRow.lt hj.out.row j hv).1
            have := H4.out
            omega
        unfold ClsO
        rw [List.length_replicate]
        exact row_le ((hj.out.row.kept h1 hne4).kept h2 hne4) HWZ.out)
      clear br b4
      go_wp2_with fail
      exact bodyPost_ret (v := .agg #[.string ⟨key.toArray⟩, .slice Av nv cv]) (by simp [results, Try.results31, r0, r1, go_sem]) rfl ⟨_, rfl, HFC.out, HFX.out⟩
end Go.Proofs.Ytocdifjdeifclaa
