/-
  Layer 19: the note of a change.
-/
import Derived.Test.YtacabcpjaadijaaDoorCapName
import Derived.Test.YtacabcpjaadijaaDoorChPut
import Derived.Test.YtacabcpjaadijaaDoorMonoLast
import Derived.Deep.Cut
namespace Go.Proofs.YtacabcpjaadijaaDoor
open Go Go.RowKit Mono Num
set_option linter.unusedVariables false
set_option linter.unusedSimpArgs false
set_option maxRecDepth 100000

def noteN (gs : List Grp) (c : Ch) : List UInt8 := if cgood gs c = 0 then pname c.seq else []
def noteT (gs : List Grp) (c : Ch) : List UInt8 := if cgood gs c = 0 then cput gs c else []

set_option maxHeartbeats 4000000 in
theorem capNote_any (vl : Value) (gs : List Grp) (site seq sn ss va vb : Int) (vw : Value) (ws : List Wr) (w : World) (hl : Gs w vl gs) (hw : Ws w vw ws) (hT : TbC w) :
    Calls Tryd.prog 13 #[vl, chV ⟨site, seq, sn, ss, va, vb, ws⟩ vw] w fun e w' => e = .returned (.tuple #[.agg #[strV (noteN gs ⟨site, seq, sn, ss, va, vb, ws⟩), strV (noteT gs ⟨site, seq, sn, ss, va, vb, ws⟩)], .int .i64 ((cgood gs ⟨site, seq, sn, ss, va, vb, ws⟩ : Nat) : Int)]) ∧ Ext w w' := by
  have HG := Lib.hid hl
  have HT := Lib.hid hT
  have HW := Lib.hid hw
  obtain ⟨A, c, rfl, _⟩ := hw.at_
  obtain ⟨Ag, cg, rfl, _⟩ := hl.at_
  have HGD := Lib.hid (fun w h1 h2 => chGood_any (.slice Ag gs.length cg) gs site seq sn ss va vb (.slice A ws.length c) ws w h1 h2)
  unfold chV at HGD ⊢
  dsimp only at HGD ⊢
  clear hl hw
  go_enter Tryd.func13, Tryd.ntmps13
  go_upto_region 1 with (fail)
  have ba := Blk.new w #[.int .i64 site, .int .i64 seq, .int .i64 sn, .int .i64 ss, .int .i64 va, .int .i64 vb, .slice A ws.length c] 32
  have bb := Blk.new (w.alloc (.cells #[.int .i64 site, .int .i64 seq, .int .i64 sn, .int .i64 ss, .int .i64 va, .int .i64 vb, .slice A ws.length c] 32)) #[.string ⟨#[]⟩, .string ⟨#[]⟩] 38
  replace ba := ba.ext (ext_alloc _ (.cells #[.string ⟨#[]⟩, .string ⟨#[]⟩] 38))
  have hx := Ext.trans (ext_alloc w (.cells #[.int .i64 site, .int .i64 seq, .int .i64 sn, .int .i64 ss, .int .i64 va, .int .i64 vb, .slice A ws.length c] 32)) (ext_alloc _ (.cells #[.string ⟨#[]⟩, .string ⟨#[]⟩] 38))
  simp only [World.size_alloc] at bb
  obtain ⟨na, hna⟩ : ∃ n, n = w.heap.size := ⟨_, rfl⟩
  obtain ⟨nb, hnb⟩ : ∃ n, n = w.heap.size + 1 := ⟨_, rfl⟩
  have HNB := Lib.hid (show w.heap.size ≤ nb by omega)
  rw [← hna] at ba
  rw [← hnb] at bb
  rw [← hnb, ← hna]
  clear hna hnb
  generalize (w.alloc (.cells #[.int .i64 site, .int .i64 seq, .int .i64 sn, .int .i64 ss, .int .i64 va, .int .i64 vb, .slice A ws.length c] 32)).alloc (.cells #[.string ⟨#[]⟩, .string ⟨#[]⟩] 38) = W at *
  have HC := Lib.hid (HGD.out W (HG.out.ext hx) (HW.out.ext hx))
  have k0 := ba.cell (i := 0) rfl
  have k1 := ba.cell (i := 1) rfl
  have k2 := ba.cell (i := 2) rfl
  have k3 := ba.cell (i := 3) rfl
  have k4 := ba.cell (i := 4) rfl
  have k5 := ba.cell (i := 5) rfl
  have k6 := ba.cell (i := 6) rfl
  have HX := Lib.hid hx
  have HA := Lib.hid ba
  have HB := Lib.hid bb
  clear hx ba bb HGD
  go_wp2_with fail
  refine HC.out.mono ?_
  rintro e w1 ⟨rfl, x1⟩
  have ba := HA.out.ext x1
  have bb := HB.out.ext x1
  have hx := HX.out.trans x1
  clear k0 k1 k2 k3 k4 k5 k6 HC HA HB HX x1
  by_cases hg : cgood gs ⟨site, seq, sn, ss, va, vb, ws⟩ = 0
  · have HN := Lib.hid (show noteN gs ⟨site, seq, sn, ss, va, vb, ws⟩ = pname seq by unfold noteN; rw [if_pos hg])
    have HT2 := Lib.hid (show noteT gs ⟨site, seq, sn, ss, va, vb, ws⟩ = cput gs ⟨site, seq, sn, ss, va, vb, ws⟩ by unfold noteT; rw [if_pos hg])
    have HCG := Lib.hid hg
    rw [hg]
    clear hg
    go_wp2_with fail
    refine wp_region_tail_lit 8 (by kernel_rfl) rfl (by kernel_rfl) (by kernel_rfl) ?_
    refine tele_val rfl (.pointer (some ⟨na, 1, none⟩)) (fun _ _ _ => rfl) ?_ ?_
    · rintro ρ w' he ⟨h3, -⟩
      have e3 : ρ 3 = (.pointer (some ⟨na, 0, none⟩)) := h3
      simp [execOp, evR, e3, go_sem]
    refine tele_val rfl (.int .i64 seq) (fun _ _ _ => rfl) ?_ ?_
    · rintro ρ w' he ⟨h14, -⟩
      have e14 : ρ 14 = (.pointer (some ⟨na, 1, none⟩)) := h14
      have c1 := (ba.ext he).cell (i := 1) rfl; simp [execOp, evR, e14, c1, go_sem]
    refine tele_call rfl rfl Tryd.func15 (by kernel_rfl) (isV (strV (pname seq))) (fun _ _ _ => rfl) ?_ ?_
    · rintro ρ w' he ⟨h15, -⟩
      have e15 : ρ 15 = (.int .i64 seq) := h15
      simp only [evR, List.map_toArray, List.map_cons, List.map_nil, e15]
      refine (capName_any _ _ (HT.out.ext (hx.trans he))).mono ?_; rintro e w'' ⟨rfl, h'⟩; exact ⟨_, rfl, h', rfl⟩
    refine tele_move rfl (.inl rfl) rfl (isV (.slice Ag gs.length cg)) (fun ρ w' h => h) ?_
    refine tele_val rfl (chV ⟨site, seq, sn, ss, va, vb, ws⟩ (.slice A ws.length c)) (fun _ _ _ => rfl) ?_ ?_
    · rintro ρ w' he ⟨h3, -⟩
      have e3 : ρ 3 = (.pointer (some ⟨na, 0, none⟩)) := h3
      have c0 := (ba.ext he).cell (i := 0) rfl; have c1 := (ba.ext he).cell (i := 1) rfl; have c2 := (ba.ext he).cell (i := 2) rfl; have c3 := (ba.ext he).cell (i := 3) rfl; have c4 := (ba.ext he).cell (i := 4) rfl; have c5 := (ba.ext he).cell (i := 5) rfl; have c6 := (ba.ext he).cell (i := 6) rfl; simp [execOp, evR, e3, c0, c1, c2, c3, c4, c5, c6, chV, go_sem]
    refine tele_call rfl rfl Tryd.func30 (by kernel_rfl) (isBs (cput gs ⟨site, seq, sn, ss, va, vb, ws⟩)) (fun _ _ _ => rfl) ?_ ?_
    · rintro ρ w' he ⟨h17, h18, -⟩
      have e17 : ρ 17 = (.slice Ag gs.length cg) := h17
      have e18 : ρ 18 = (chV ⟨site, seq, sn, ss, va, vb, ws⟩ (.slice A ws.length c)) := h18
      simp only [evR, List.map_toArray, List.map_cons, List.map_nil, e17, e18]
      refine (chPut_any (.slice none 0 0) [] _ gs site seq sn ss va vb _ ws _ (Bs.nil_ _) (by decide) (HG.out.ext (hx.trans he)) (HW.out.ext (hx.trans he))).mono ?_; rintro e w'' ⟨r, rfl, hr, h'⟩; exact ⟨_, rfl, h', hr.bs⟩
    refine tele_val rfl (strV (cput gs ⟨site, seq, sn, ss, va, vb, ws⟩)) (fun _ _ _ => rfl) ?_ ?_
    · rintro ρ w' he ⟨h19, -⟩
      have e19 : Bs w' (ρ 19) (cput gs ⟨site, seq, sn, ss, va, vb, ws⟩) := h19
      have hc := e19.str_ (P := Tryd.prog) 75 9 5 Tryd.underlying75 Tryd.underlying5 Tryd.underlying9; simp [execOp, evR, hc, go_sem]
    refine tele_val rfl (.agg #[strV (pname seq), strV (cput gs ⟨site, seq, sn, ss, va, vb, ws⟩)]) (fun _ _ _ => rfl) ?_ ?_
    · rintro ρ w' he ⟨h16, h20, -⟩
      have e16 : ρ 16 = (strV (pname seq)) := h16
      have e20 : ρ 20 = (strV (cput gs ⟨site, seq, sn, ss, va, vb, ws⟩)) := h20
      simp [execOp, evR, e16, e20, go_sem]; rfl
    refine tele_nil ?_
    rintro ρ w' hext ⟨f21, f20, f19, f18, f17, f16, f15, f14, -⟩ hap
    replace f14 : ρ 14 = (.pointer (some ⟨na, 1, none⟩)) := f14
    replace f15 : ρ 15 = (.int .i64 seq) := f15
    replace f16 : ρ 16 = (strV (pname seq)) := f16
    replace f17 : ρ 17 = (.slice Ag gs.length cg) := f17
    replace f18 : ρ 18 = (chV ⟨site, seq, sn, ss, va, vb, ws⟩ (.slice A ws.length c)) := f18
    replace f19 : Bs w' (ρ 19) (cput gs ⟨site, seq, sn, ss, va, vb, ws⟩) := f19
    replace f20 : ρ 20 = (strV (cput gs ⟨site, seq, sn, ss, va, vb, ws⟩)) := f20
    replace f21 : ρ 21 = (.agg #[strV (pname seq), strV (cput gs ⟨site, seq, sn, ss, va, vb, ws⟩)]) := f21
    simp only [puts, Act.put, List.setIfInBounds_toArray, List.set_cons_zero, List.set_cons_succ]
    rw [f21]
    have b2 := bb.ext hext
    have hx2 := hx.trans hext
    clear f14 f15 f16 f17 f18 f19 f20 f21 bb ba hx
    have y0 := b2.cell (i := 0) rfl
    have y1 := b2.cell (i := 1) rfl
    have z0 := b2.thaw 0
    have z1 := b2.thaw 1
    generalize pname seq = P at *
    generalize cput gs ⟨site, seq, sn, ss, va, vb, ws⟩ = T at *
    have b3 := (b2.set 0 (strV P)).set 1 (strV T)
    have d0 := b3.cell (i := 0) rfl
    have d1 := b3.cell (i := 1) rfl
    have X3 := Lib.hid (show Ext w ((w'.setCell ⟨nb, 0, none⟩ (strV P)).setCell ⟨nb, 1, none⟩ (strV T)) from (hx2.setCell (p := ⟨nb, 0, none⟩) HNB.out _).setCell (p := ⟨nb, 1, none⟩) HNB.out _)
    clear b2 b3 hx2
    unfold strV at *
    go_wp2_with fail
    exact bodyPost_ret (v := .tuple #[.agg #[.string ⟨P.toArray⟩, .string ⟨T.toArray⟩], .int .i64 0]) (by simp [results, Tryd.results13, d0, d1, go_sem]) rfl ⟨(by rw [HN.out, HT2.out, HCG.out]; rfl), X3.out⟩
  · have HN := Lib.hid (show noteN gs ⟨site, seq, sn, ss, va, vb, ws⟩ = [] by unfold noteN; rw [if_neg hg])
    have HT2 := Lib.hid (show noteT gs ⟨site, seq, sn, ss, va, vb, ws⟩ = [] by unfold noteT; rw [if_neg hg])
    have hgi : ¬ ((cgood gs ⟨site, seq, sn, ss, va, vb, ws⟩ : Nat) : Int) = 0 := by omega
    generalize hgg : cgood gs ⟨site, seq, sn, ss, va, vb, ws⟩ = g at *
    have HGG := Lib.hid hgg
    clear hg hgg
    have y0 := bb.cell (i := 0) rfl
    have y1 := bb.cell (i := 1) rfl
    have z0 := bb.thaw 0
    have z1 := bb.thaw 1
    have b3 := (bb.set 0 (.string ⟨#[]⟩)).set 1 (.string ⟨#[]⟩)
    have d0 := b3.cell (i := 0) rfl
    have d1 := b3.cell (i := 1) rfl
    have X3 := Lib.hid (show Ext w ((w1.setCell ⟨nb, 0, none⟩ (.string ⟨#[]⟩)).setCell ⟨nb, 1, none⟩ (.string ⟨#[]⟩)) from (hx.setCell (p := ⟨nb, 0, none⟩) HNB.out _).setCell (p := ⟨nb, 1, none⟩) HNB.out _)
    clear bb b3 hx ba
    go_wp2_with fail
    exact bodyPost_ret (v := .tuple #[.agg #[.string ⟨#[]⟩, .string ⟨#[]⟩], .int .i64 (g : Int)]) (by simp [results, Tryd.results13, d0, d1, go_sem]) rfl ⟨(by rw [HN.out, HT2.out, HGG.out]; rfl), X3.out⟩

set_option maxHeartbeats 4000000 in
theorem refNote_any (vl : Value) (gs : List Grp) (site seq sn ss va vb : Int) (vw : Value) (ws : List Wr) (w : World) (hl : Gs w vl gs) (hw : Ws w vw ws) :
    Calls Tryd.prog 14 #[vl, chV ⟨site, seq, sn, ss, va, vb, ws⟩ vw] w fun e w' => e = .returned (.tuple #[.agg #[strV (noteN gs ⟨site, seq, sn, ss, va, vb, ws⟩), strV (noteT gs ⟨site, seq, sn, ss, va, vb, ws⟩)], .int .i64 ((cgood gs ⟨site, seq, sn, ss, va, vb, ws⟩ : Nat) : Int)]) ∧ Ext w w' := by
  have HG := Lib.hid hl
  have HW := Lib.hid hw
  obtain ⟨A, c, rfl, _⟩ := hw.at_
  obtain ⟨Ag, cg, rfl, _⟩ := hl.at_
  have HGD := Lib.hid (fun w h1 h2 => refChGood_any (.slice Ag gs.length cg) gs site seq sn ss va vb (.slice A ws.length c) ws w h1 h2)
  unfold chV at HGD ⊢
  dsimp only at HGD ⊢
  clear hl hw
  go_enter Tryd.func14, Tryd.ntmps14
  go_upto_region 1 with (fail)
  have ba := Blk.new w #[.int .i64 site, .int .i64 seq, .int .i64 sn, .int .i64 ss, .int .i64 va, .int .i64 vb, .slice A ws.length c] 32
  have bb := Blk.new (w.alloc (.cells #[.int .i64 site, .int .i64 seq, .int .i64 sn, .int .i64 ss, .int .i64 va, .int .i64 vb, .slice A ws.length c] 32)) #[.string ⟨#[]⟩, .string ⟨#[]⟩] 38
  replace ba := ba.ext (ext_alloc _ (.cells #[.string ⟨#[]⟩, .string ⟨#[]⟩] 38))
  have hx := Ext.trans (ext_alloc w (.cells #[.int .i64 site, .int .i64 seq, .int .i64 sn, .int .i64 ss, .int .i64 va, .int .i64 vb, .slice A ws.length c] 32)) (ext_alloc _ (.cells #[.string ⟨#[]⟩, .string ⟨#[]⟩] 38))
  simp only [World.size_alloc] at bb
  obtain ⟨na, hna⟩ : ∃ n, n = w.heap.size := ⟨_, rfl⟩
  obtain ⟨nb, hnb⟩ : ∃ n, n = w.heap.size + 1 := ⟨_, rfl⟩
  have HNB := Lib.hid (show w.heap.size ≤ nb by omega)
  rw [← hna] at ba
  rw [← hnb] at bb
  rw [← hnb, ← hna]
  clear hna hnb
  generalize (w.alloc (.cells #[.int .i64 site, .int .i64 seq, .int .i64 sn, .int .i64 ss, .int .i64 va, .int .i64 vb, .slice A ws.length c] 32)).alloc (.cells #[.string ⟨#[]⟩, .string ⟨#[]⟩] 38) = W at *
  have HC := Lib.hid (HGD.out W (HG.out.ext hx) (HW.out.ext hx))
  have k0 := ba.cell (i := 0) rfl
  have k1 := ba.cell (i := 1) rfl
  have k2 := ba.cell (i := 2) rfl
  have k3 := ba.cell (i := 3) rfl
  have k4 := ba.cell (i := 4) rfl
  have k5 := ba.cell (i := 5) rfl
  have k6 := ba.cell (i := 6) rfl
  have HX := Lib.hid hx
  have HA := Lib.hid ba
  have HB := Lib.hid bb
  clear hx ba bb HGD
  go_wp2_with fail
  refine HC.out.mono ?_
  rintro e w1 ⟨rfl, x1⟩
  have ba := HA.out.ext x1
  have bb := HB.out.ext x1
  have hx := HX.out.trans x1
  clear k0 k1 k2 k3 k4 k5 k6 HC HA HB HX x1
  by_cases hg : cgood gs ⟨site, seq, sn, ss, va, vb, ws⟩ = 0
  · have HN := Lib.hid (show noteN gs ⟨site, seq, sn, ss, va, vb, ws⟩ = pname seq by unfold noteN; rw [if_pos hg])
    have HT2 := Lib.hid (show noteT gs ⟨site, seq, sn, ss, va, vb, ws⟩ = cput gs ⟨site, seq, sn, ss, va, vb, ws⟩ by unfold noteT; rw [if_pos hg])
    have HCG := Lib.hid hg
    rw [hg]
    clear hg
    go_wp2_with fail
    refine wp_region_tail_lit 8 (by kernel_rfl) rfl (by kernel_rfl) (by kernel_rfl) ?_
    refine tele_val rfl (.pointer (some ⟨na, 1, none⟩)) (fun _ _ _ => rfl) ?_ ?_
    · rintro ρ w' he ⟨h3, -⟩
      have e3 : ρ 3 = (.pointer (some ⟨na, 0, none⟩)) := h3
      simp [execOp, evR, e3, go_sem]
    refine tele_val rfl (.int .i64 seq) (fun _ _ _ => rfl) ?_ ?_
    · rintro ρ w' he ⟨h14, -⟩
      have e14 : ρ 14 = (.pointer (some ⟨na, 1, none⟩)) := h14
      have c1 := (ba.ext he).cell (i := 1) rfl; simp [execOp, evR, e14, c1, go_sem]
    refine tele_call rfl rfl Tryd.func16 (by kernel_rfl) (isV (strV (pname seq))) (fun _ _ _ => rfl) ?_ ?_
    · rintro ρ w' he ⟨h15, -⟩
      have e15 : ρ 15 = (.int .i64 seq) := h15
      simp only [evR, List.map_toArray, List.map_cons, List.map_nil, e15]
      refine (refCName_any _ _).mono ?_; rintro e w'' ⟨rfl, h'⟩; exact ⟨_, rfl, h', rfl⟩
    refine tele_move rfl (.inl rfl) rfl (isV (.slice Ag gs.length cg)) (fun ρ w' h => h) ?_
    refine tele_val rfl (chV ⟨site, seq, sn, ss, va, vb, ws⟩ (.slice A ws.length c)) (fun _ _ _ => rfl) ?_ ?_
    · rintro ρ w' he ⟨h3, -⟩
      have e3 : ρ 3 = (.pointer (some ⟨na, 0, none⟩)) := h3
      have c0 := (ba.ext he).cell (i := 0) rfl; have c1 := (ba.ext he).cell (i := 1) rfl; have c2 := (ba.ext he).cell (i := 2) rfl; have c3 := (ba.ext he).cell (i := 3) rfl; have c4 := (ba.ext he).cell (i := 4) rfl; have c5 := (ba.ext he).cell (i := 5) rfl; have c6 := (ba.ext he).cell (i := 6) rfl; simp [execOp, evR, e3, c0, c1, c2, c3, c4, c5, c6, chV, go_sem]
    refine tele_call rfl rfl Tryd.func32 (by kernel_rfl) (isBs (cput gs ⟨site, seq, sn, ss, va, vb, ws⟩)) (fun _ _ _ => rfl) ?_ ?_
    · rintro ρ w' he ⟨h17, h18, -⟩
      have e17 : ρ 17 = (.slice Ag gs.length cg) := h17
      have e18 : ρ 18 = (chV ⟨site, seq, sn, ss, va, vb, ws⟩ (.slice A ws.length c)) := h18
      simp only [evR, List.map_toArray, List.map_cons, List.map_nil, e17, e18]
      refine (refChPut_any (.slice none 0 0) [] _ gs site seq sn ss va vb _ ws _ (Bs.nil_ _) (by decide) (HG.out.ext (hx.trans he)) (HW.out.ext (hx.trans he))).mono ?_; rintro e w'' ⟨r, rfl, hr, h'⟩; exact ⟨_, rfl, h', hr.bs⟩
    refine tele_val rfl (strV (cput gs ⟨site, seq, sn, ss, va, vb, ws⟩)) (fun _ _ _ => rfl) ?_ ?_
    · rintro ρ w' he ⟨h19, -⟩
      have e19 : Bs w' (ρ 19) (cput gs ⟨site, seq, sn, ss, va, vb, ws⟩) := h19
      have hc := e19.str_ (P := Tryd.prog) 75 9 5 Tryd.underlying75 Tryd.underlying5 Tryd.underlying9; simp [execOp, evR, hc, go_sem]
    refine tele_val rfl (.agg #[strV (pname seq), strV (cput gs ⟨site, seq, sn, ss, va, vb, ws⟩)]) (fun _ _ _ => rfl) ?_ ?_
    · rintro ρ w' he ⟨h16, h20, -⟩
      have e16 : ρ 16 = (strV (pname seq)) := h16
      have e20 : ρ 20 = (strV (cput gs ⟨site, seq, sn, ss, va, vb, ws⟩)) := h20
      simp [execOp, evR, e16, e20, go_sem]; rfl
    refine tele_nil ?_
    rintro ρ w' hext ⟨f21, f20, f19, f18, f17, f16, f15, f14, -⟩ hap
    replace f14 : ρ 14 = (.pointer (some ⟨na, 1, none⟩)) := f14
    replace f15 : ρ 15 = (.int .i64 seq) := f15
    replace f16 : ρ 16 = (strV (pname seq)) := f16
    replace f17 : ρ 17 = (.slice Ag gs.length cg) := f17
    replace f18 : ρ 18 = (chV ⟨site, seq, sn, ss, va, vb, ws⟩ (.slice A ws.length c)) := f18
    replace f19 : Bs w' (ρ 19) (cput gs ⟨site, seq, sn, ss, va, vb, ws⟩) := f19
    replace f20 : ρ 20 = (strV (cput gs ⟨site, seq, sn, ss, va, vb, ws⟩)) := f20
    replace f21 : ρ 21 = (.agg #[strV (pname seq), strV (cput gs ⟨site, seq, sn, ss, va, vb, ws⟩)]) := f21
    simp only [puts, Act.put, List.setIfInBounds_toArray, List.set_cons_zero, List.set_cons_succ]
    rw [f21]
    have b2 := bb.ext hext
    have hx2 := hx.trans hext
    clear f14 f15 f16 f17 f18 f19 f20 f21 bb ba hx
    have y0 := b2.cell (i := 0) rfl
    have y1 := b2.cell (i := 1) rfl
    have z0 := b2.thaw 0
    have z1 := b2.thaw 1
    generalize pname seq = P at *
    generalize cput gs ⟨site, seq, sn, ss, va, vb, ws⟩ = T at *
    have b3 := (b2.set 0 (strV P)).set 1 (strV T)
    have d0 := b3.cell (i := 0) rfl
    have d1 := b3.cell (i := 1) rfl
    have X3 := Lib.hid (show Ext w ((w'.setCell ⟨nb, 0, none⟩ (strV P)).setCell ⟨nb, 1, none⟩ (strV T)) from (hx2.setCell (p := ⟨nb, 0, none⟩) HNB.out _).setCell (p := ⟨nb, 1, none⟩) HNB.out _)
    clear b2 b3 hx2
    unfold strV at *
    go_wp2_with fail
    exact bodyPost_ret (v := .tuple #[.agg #[.string ⟨P.toArray⟩, .string ⟨T.toArray⟩], .int .i64 0]) (by simp [results, Tryd.results14, d0, d1, go_sem]) rfl ⟨(by rw [HN.out, HT2.out, HCG.out]; rfl), X3.out⟩
  · have HN := Lib.hid (show noteN gs ⟨site, seq, sn, ss, va, vb, ws⟩ = [] by unfold noteN; rw [if_neg hg])
    have HT2 := Lib.hid (show noteT gs ⟨site, seq, sn, ss, va, vb, ws⟩ = [] by unfold noteT; rw [if_neg hg])
    have hgi : ¬ ((cgood gs ⟨site, seq, sn, ss, va, vb, ws⟩ : Nat) : Int) = 0 := by omega
    generalize hgg : cgood gs ⟨site, seq, sn, ss, va, vb, ws⟩ = g at *
    have HGG := Lib.hid hgg
    clear hg hgg
    have y0 := bb.cell (i := 0) rfl
    have y1 := bb.cell (i := 1) rfl
    have z0 := bb.thaw 0
    have z1 := bb.thaw 1
    have b3 := (bb.set 0 (.string ⟨#[]⟩)).set 1 (.string ⟨#[]⟩)
    have d0 := b3.cell (i := 0) rfl
    have d1 := b3.cell (i := 1) rfl
    have X3 := Lib.hid (show Ext w ((w1.setCell ⟨nb, 0, none⟩ (.string ⟨#[]⟩)).setCell ⟨nb, 1, none⟩ (.string ⟨#[]⟩)) from (hx.setCell (p := ⟨nb, 0, none⟩) HNB.out _).setCell (p := ⟨nb, 1, none⟩) HNB.out _)
    clear bb b3 hx ba
    go_wp2_with fail
    exact bodyPost_ret (v := .tuple #[.agg #[.string ⟨#[]⟩, .string ⟨#[]⟩], .int .i64 (g : Int)]) (by simp [results, Tryd.results14, d0, d1, go_sem]) rfl ⟨(by rw [HN.out, HT2.out, HGG.out]; rfl), X3.out⟩
end Go.Proofs.YtacabcpjaadijaaDoor
