/-
  Layer 12: the walk of change.Rows.
-/
import Derived.Test.YtocdifjdeifclaaRowsJ
import Derived.Test.YtocdifjdeifclaaChGoodRef
import Derived.Test.YtocdifjdeifclaaMonoLate
import Derived.IntWalk
namespace Go.Proofs.Ytocdifjdeifclaa
open Go Go.RowKit Mono Num
set_option linter.unusedVariables false
set_option linter.unusedSimpArgs false
set_option maxRecDepth 100000

def isNewC (W : World) (L : List Value) : MRel := ⟨fun v w => ∃ b, v = .pointer (some ⟨b, 0, none⟩) ∧ W.heap.size ≤ b ∧ Blk w b L, fun _ _ _ ⟨b, h1, h2, h3⟩ he => ⟨b, h1, h2, h3.ext he⟩⟩
def RowsQ (gs : List Grp) (c : Ch) (w : World) (e : Ending) (w' : World) : Prop := ∃ vo outs, e = .returned (.tuple #[vo, .int .i64 (((crows gs c).2 : Nat) : Int)]) ∧ RsJ w vo outs w' ∧ outs.map erR = (crows gs c).1
theorem RsJ.form {w W : World} {vo : Value} {outs : List RwM} (h : RsJ w vo outs W) : ∃ A c, vo = .slice A outs.length c := by
  rcases h.row.2 with ⟨h, hn⟩ | ⟨g, cap', cur, h, _⟩
  · exact ⟨none, 0, by rw [hn]; exact h⟩
  · exact ⟨some ⟨g, 0, none⟩, cap', h⟩
theorem RsJ.base {w0 w W : World} {vo : Value} {outs : List RwM} (h : RsJ w vo outs W) (he : Ext w0 w) : RsJ w0 vo outs W := ⟨he.trans h.ext, row_le h.row he.size, fun x hx => ⟨row_le (h.own x hx).1 he.size, (h.own x hx).2⟩, h.apart⟩
theorem RowsQ.mk {gs : List Grp} {c : Ch} {w w1 w' : World} {e : Ending} {cs : List RwP} {n : Nat} (vo : Value) (outs : List RwM) (hc : crows gs c = (cs, n)) (he : e = .returned (.tuple #[vo, .int .i64 (n : Int)])) (h : RsJ w1 vo outs w') (hx : Ext w w1) (hm : outs.map erR = cs) : RowsQ gs c w e w' :=
  ⟨vo, outs, by rw [hc]; exact he, h.base hx, by rw [hc]; exact hm⟩

set_option maxHeartbeats 16000000 in
theorem chRows_any (vl : Value) (gs : List Grp) (s1 s2 s3 s4 s5 s6 : Int) (ws : List Wr) (vw : Value) (w0 : World) (hl : Gs w0 vl gs) (hw : Ws w0 vw ws) :
    Calls Try.prog 11 #[vl, chV ⟨s1, s2, s3, s4, s5, s6, ws⟩ vw] w0 fun e w' => RowsQ gs ⟨s1, s2, s3, s4, s5, s6, ws⟩ w0 e w' := by
  obtain ⟨i0, hi0, hz0, hz1, hz2⟩ := info_parts infoRw
  have HI0 := Lib.hid hi0
  have HZ0 := Lib.hid hz0
  have HZ1 := Lib.hid hz1
  have HZ2 := Lib.hid hz2
  have HG0 := Lib.hid hl
  have HW0 := Lib.hid hw
  obtain ⟨A, cw, rfl, w1', w2', -, w4'⟩ := hw.at_
  have H4 := Lib.hid w4'
  obtain ⟨Ag, cg, rfl, g1', g2', -, g4'⟩ := hl.at_
  have G4 := Lib.hid g4'
  clear hi0 hz0 hz1 hz2 hl hw w4' g4'
  unfold chV
  dsimp only
  go_enter Try.func11, Try.ntmps11
  go_upto_region 1 with (fail)
  have b3 := Blk.new w0 #[.int .i64 s1, .int .i64 s2, .int .i64 s3, .int .i64 s4, .int .i64 s5, .int .i64 s6, .slice A ws.length cw] 29
  have hx := ext_alloc w0 (.cells #[.int .i64 s1, .int .i64 s2, .int .i64 s3, .int .i64 s4, .int .i64 s5, .int .i64 s6, .slice A ws.length cw] 29)
  obtain ⟨n3, hn3⟩ : ∃ n, n = w0.heap.size := ⟨_, rfl⟩
  have H3L := Lib.hid b3.lt
  rw [← hn3] at b3 H3L
  rw [← hn3]
  clear hn3
  have HG := Lib.hid (HG0.out.ext hx)
  have hww := HW0.out.ext hx
  generalize w0.alloc (.cells #[.int .i64 s1, .int .i64 s2, .int .i64 s3, .int .i64 s4, .int .i64 s5, .int .i64 s6, .slice A ws.length cw] 29) = w at *
  have HX0 := Lib.hid hx
  have hgd := chGood_any _ gs s1 s2 s3 s4 s5 s6 _ ws w HG.out hww
  unfold chV at hgd
  dsimp only at hgd
  have HGD := Lib.hid hgd
  clear hgd hx hww
  have k0 := b3.cell (i := 0) rfl
  have k1 := b3.cell (i := 1) rfl
  have k2 := b3.cell (i := 2) rfl
  have k3 := b3.cell (i := 3) rfl
  have k4 := b3.cell (i := 4) rfl
  have k5 := b3.cell (i := 5) rfl
  have k6 := b3.cell (i := 6) rfl
  go_wp2_with fail
  refine HGD.out.mono ?_
  rintro e w1 ⟨rfl, x1⟩
  clear k0 k1 k2 k3 k4 k5 k6 HGD
  by_cases hg : cgood gs ⟨s1, s2, s3, s4, s5, s6, ws⟩ = 0
  rotate_left
  · have hg0 : (((cgood gs ⟨s1, s2, s3, s4, s5, s6, ws⟩ : Nat) : Int) != 0) = true := by rw [bne_iff_ne]; omega
    have HR := Lib.hid (show crows gs ⟨s1, s2, s3, s4, s5, s6, ws⟩ = ([], cgood gs ⟨s1, s2, s3, s4, s5, s6, ws⟩) by unfold crows; rw [if_pos hg])
    clear hg
    have HX1 := Lib.hid x1
    clear x1
    go_wp2_with fail
    go_ret2
    exact RowsQ.mk _ [] HR.out rfl (RsJ.start HX1.out) HX0.out rfl
  obtain ⟨hpg, hhd, hw1, hw8, hgf⟩ := good_parts hg
  dsimp only at hw1 hw8 hgf
  have HHD := Lib.hid (head_parts hhd)
  have HP := Lib.hid hpg
  have HN4 := Lib.hid (pgood_len4 hpg)
  have HWK := Lib.hid (goodF_each ws gs.length none hgf)
  have HR := Lib.hid (show crows gs ⟨s1, s2, s3, s4, s5, s6, ws⟩ = (rowsF gs ⟨s1, s2, s3, s4, s5, s6, ws⟩ ws, 0) by unfold crows; rw [if_neg (by omega)])
  rw [hg]
  clear hg hpg hhd hgf
  obtain ⟨b, off, rfl, hb, hc⟩ := H4.out (by omega)
  obtain ⟨bg, og, rfl, hbg, hcg⟩ := G4.out (by have := HN4.out.1; omega)
  have HB0 := Lib.hid hb
  have HBG := Lib.hid hbg
  replace hb := Nat.lt_of_lt_of_le hb HX0.out.size
  replace hbg := Nat.lt_of_lt_of_le hbg HX0.out.size
  have HC := Lib.hid hc
  have HCG := Lib.hid hcg
  have hng : gs.length ≤ 4 := HN4.out.2
  have b3' := b3.ext x1
  have H3S := Lib.hid b3'
  clear hc hcg H4 G4 b3
  have k6 := b3'.cell (i := 6) rfl
  have HX1 := Lib.hid x1
  clear x1 b3'
  go_wp2_with fail
  clear k6
  go_loopw [7, 24] (fun o i wr => ∃ (k : Nat) (outs : List RwM), i = .int .i64 k ∧ Hid (RsJ w o outs wr) ∧ Hid (Blk wr n3 #[.int .i64 s1, .int .i64 s2, .int .i64 s3, .int .i64 s4, .int .i64 s5, .int .i64 s6, .slice (some ⟨b, off, none⟩) ws.length cw].toList) ∧ Hid (outs.map erR = rowsF gs ⟨s1, s2, s3, s4, s5, s6, ws⟩ (ws.take k)) ∧ k ≤ ws.length ∧ outs.length ≤ k ∧ Hid (∀ x ∈ outs, gs.length = x.2.1.length)) (fun _ i _ => ws.length - (intOf i).toNat)
  case atStart => exact ⟨0, [], rfl, Lib.hid (RsJ.start HX1.out), H3S, Lib.hid rfl, Nat.zero_le _, Nat.zero_le _, Lib.hid (by simp)⟩
  case round =>
    obtain ⟨k, outs, rfl, hj, h3, hm, hk, hok, HOL⟩ := hrel
    clear HX1 H3S
    obtain ⟨q, hq⟩ : ∃ q, q = outs.length := ⟨_, rfl⟩
    have HQ0 := Lib.hid hq.symm
    obtain ⟨Ao, cO, rfl⟩ := hj.out.form
    rw [← hq] at hj
    rw [← hq]
    have hqk : q ≤ k := by omega
    clear hq hok
    have HMK := Lib.hid hm.out
    clear hm
    by_cases hlt : k < ws.length
    · obtain ⟨ky, gi, d, z, hget, p0, p1, p2, p3, -, -, -⟩ := HC.out k hlt
      obtain ⟨hky1, hky2, hgi0, hgi1, hz64, hdz⟩ := wok_parts (HWK.out _ (List.mem_of_getElem? hget))
      dsimp only at hky1 hky2 hgi0 hgi1 hz64 hdz
      obtain ⟨gn, rfl⟩ : ∃ n : Nat, gi = (n : Int) := ⟨gi.toNat, by omega⟩
      have HGET := Lib.hid hget
      have HKY := Lib.hid (And.intro hky1 hky2)
      have hgn : gn < gs.length := by omega
      have HGN := Lib.hid hgn
      obtain ⟨gnm, pp, hgg, -, q1, -, -⟩ := HCG.out gn hgn
      have HPP := Lib.hid ((HX0.out.cell (p := ⟨bg, og + gn * 2 + 1, none⟩) HBG.out).trans q1)
      have hpp := pgood_pol HP.out _ (List.mem_of_getElem? hgg)
      dsimp only at hpp
      have HPO := Lib.hid (And.intro hpp (And.intro HHD.out.1 (And.intro HHD.out.2.1 (And.intro HHD.out.2.2 (And.intro hz64 hdz)))))
      obtain ⟨⟨x0, x1, x2, x3, x4, x5, x6, x7⟩, hcl⟩ : ∃ x, clOf pp s3 s4 s5 s6 d z = x := ⟨_, rfl⟩
      have HCL := Lib.hid hcl
      have HCW : Hid (wcell gs ⟨s1, s2, s3, s4, s5, s6, ws⟩ ⟨ky, (gn : Int), d, z⟩ = ⟨x0, x1, x2, x3, x4, x5, x6, x7⟩) := Lib.hid (by
        unfold wcell polAt
        dsimp only
        rw [Int.toNat_natCast, List.getD_eq_getElem?_getD, hgg]
        exact hcl)
      replace p0 := ((HX0.out.trans hj.out.ext).cell (p := ⟨b, off + k * 4, none⟩) HB0.out).trans p0
      replace p1 := ((HX0.out.trans hj.out.ext).cell (p := ⟨b, off + k * 4 + 1, none⟩) HB0.out).trans p1
      replace p2 := ((HX0.out.trans hj.out.ext).cell (p := ⟨b, off + k * 4 + 2, none⟩) HB0.out).trans p2
      replace p3 := ((HX0.out.trans hj.out.ext).cell (p := ⟨b, off + k * 4 + 3, none⟩) HB0.out).trans p3
      unfold strV at p0 p3
      have k6 := h3.out.cell (i := 6) rfl
      clear hget hky1 hky2 hgg q1 hpp hcl hdz
      go_upto_region 9 with (fail)
      clear p0 p1 p2 p3 k6
      have bt := Blk.new wr #[.string ⟨ky.toArray⟩, .int .i64 (gn : Int), .bool d, .string ⟨z.toArray⟩] 31
      have HJ0 := Lib.hid (hj.out.more (ext_alloc wr (.cells #[.string ⟨ky.toArray⟩, .int .i64 (gn : Int), .bool d, .string ⟨z.toArray⟩] 31)))
      have H30 := Lib.hid (h3.out.ext (ext_alloc wr (.cells #[.string ⟨ky.toArray⟩, .int .i64 (gn : Int), .bool d, .string ⟨z.toArray⟩] 31)))
      have HN9 : Hid ((Value.slice Ao q cO).ownBlock ≠ some wr.heap.size) := Lib.hid (fun e => by
        have h := (World.ownsRow.lt hj.out.row wr.heap.size e).2
        omega)
      clear hj h3
      generalize wr.heap.size = n9 at *
      generalize wr.alloc (.cells #[.string ⟨ky.toArray⟩, .int .i64 (gn : Int), .bool d, .string ⟨z.toArray⟩] 31) = W5 at *
      have H90 : Hid (Blk W5 n9 [strV ky, .int .i64 (gn : Int), .bool d, strV z]) := Lib.hid bt
      clear bt
      have HX := Lib.hid HJ0.out.ext
      have H3 := H30
      have H9 := H90
      rcases List.eq_nil_or_concat outs with houts | ⟨pre0, ⟨lk, cs0, vlast⟩, houts⟩
      · subst houts
        have hq00 : q = 0 := HQ0.out.symm
        have hq0 : q < 1 := by omega
        clear hq00
        refine wp_region_mono (by kernel_rfl) (by kernel_rfl) ?_
        refine tele_move rfl (.inl rfl) rfl (isV (.int .i64 ((q : Nat) : Int))) (fun ρ w' h => h) ?_
        refine tele_val rfl (.bool true) (fun _ _ _ => rfl) ?_ ?_
        · rintro ρ w' he ⟨h30, -⟩
          have e30 : ρ 30 = .int .i64 ((q : Nat) : Int) := h30
          simp [execOp, evR, e30, go_sem]
          omega
        refine tele_move rfl (.inl rfl) rfl (isV (.bool true)) (fun ρ w' h => h) ?_
        refine tele_pass rfl (fun ρ w' hk => by obtain ⟨_, hg, -⟩ := hk; have eg : ρ 32 = .bool true := hg; simp [wantedR, Region.wanted, asBoolR_bool, asBoolR_undef, eg]) ?_
        refine tele_pass rfl (fun ρ w' hk => by obtain ⟨_, hg, -⟩ := hk; have eg : ρ 32 = .bool true := hg; simp [wantedR, Region.wanted, asBoolR_bool, asBoolR_undef, eg]) ?_
        refine tele_pass rfl (fun ρ w' hk => by obtain ⟨_, hg, -⟩ := hk; have eg : ρ 32 = .bool true := hg; simp [wantedR, Region.wanted, asBoolR_bool, asBoolR_undef, eg]) ?_
        refine tele_pass rfl (fun ρ w' hk => by obtain ⟨_, _, hg, -⟩ := hk; have eg : ρ 32 = .bool true := hg; simp [wantedR, Region.wanted, asBoolR_bool, asBoolR_undef, eg]) ?_
        refine tele_pass rfl (fun ρ w' hk => by obtain ⟨_, hg, -⟩ := hk; have eg : ρ 32 = .bool true := hg; simp [wantedR, Region.wanted, asBoolR_bool, asBoolR_undef, eg]) ?_
        refine tele_pass rfl (fun ρ w' hk => by obtain ⟨_, hg, -⟩ := hk; have eg : ρ 32 = .bool true := hg; simp [wantedR, Region.wanted, asBoolR_bool, asBoolR_undef, eg]) ?_
        refine tele_pass rfl (fun ρ w' hk => by obtain ⟨_, hg, -⟩ := hk; have eg : ρ 32 = .bool true := hg; simp [wantedR, Region.wanted, asBoolR_bool, asBoolR_undef, eg]) ?_
        refine tele_pass rfl (fun ρ w' hk => by obtain ⟨_, hg, -⟩ := hk; have eg : ρ 32 = .bool true := hg; simp [wantedR, Region.wanted, asBoolR_bool, asBoolR_undef, eg]) ?_
        refine tele_pass rfl (fun ρ w' hk => by obtain ⟨_, _, hg, -⟩ := hk; have eg : ρ 32 = .bool true := hg; simp [wantedR, Region.wanted, asBoolR_bool, asBoolR_undef, eg]) ?_
        refine tele_val rfl (.bool true) (fun _ _ _ => rfl) ?_ ?_
        · rintro ρ w' he ⟨h32, h41, -⟩
          have e32 : ρ 32 = .bool true := h32
          have e41 : ρ 41 = undef := h41
          simp [execOp, evR, e32, e41, go_sem]
        refine tele_nil ?_
        rintro ρ w' hext ⟨f42, f41, f40, f39, f38, f37, f36, f35, f34, f33, f32, f31, f30, -⟩
        clear f30
        clear f31
        clear f32
        clear f33
        clear f34
        clear f35
        clear f36
        clear f37
        clear f38
        clear f39
        clear f40
        clear f41
        replace f42 : ρ 42 = .bool true := f42
        simp only [puts, Act.put, List.setIfInBounds_toArray, List.set_cons_zero, List.set_cons_succ]
        rw [f42]
        clear f42 H3 H9 HX
        have HJ1 := Lib.hid (HJ0.out.more hext)
        have H31 := Lib.hid (H30.out.ext hext)
        have H91 := Lib.hid (H90.out.ext hext)
        generalize w' = W6 at *
        have k0 := H91.out.cell (i := 0) rfl
        clear HJ0 H30 H90 hext
        unfold strV at *
        go_wp2_with fail
        refine (rowNew_any _ gs ky W6 (HG.out.ext HJ1.out.ext) HP.out (pgood_pol HP.out) HKY.out.1 HKY.out.2).mono ?_
        rintro e W7 ⟨vc, rfl, hcl, xw7⟩
        clear k0
        unfold strV
        obtain ⟨B, cap, hvc, hB1, hB2⟩ := own_some hcl (by rw [List.length_replicate]; exact HN4.out.1)
        rw [List.length_replicate] at hvc
        subst hvc
        have HJ7 := Lib.hid (HJ1.out.more xw7)
        have hw6 := HJ1.out.ext.size
        have HJ8 := Lib.hid (HJ7.out.more (ext_alloc W7 (.cells #[.string ⟨ky.toArray⟩, .slice (some ⟨B, 0, none⟩) gs.length cap] 47)))
        have hcl8 := hcl.ext (ext_alloc W7 (.cells #[.string ⟨ky.toArray⟩, .slice (some ⟨B, 0, none⟩) gs.length cap] 47))
        have bt := Blk.new W7 #[.string ⟨ky.toArray⟩, .slice (some ⟨B, 0, none⟩) gs.length cap] 47
        have H38 := (H31.out.ext xw7).ext (ext_alloc W7 (.cells #[.string ⟨ky.toArray⟩, .slice (some ⟨B, 0, none⟩) gs.length cap] 47))
        have H98 := (H91.out.ext xw7).ext (ext_alloc W7 (.cells #[.string ⟨ky.toArray⟩, .slice (some ⟨B, 0, none⟩) gs.length cap] 47))
        go_upto_region 11 with (fail)
        generalize W7.heap.size = n11 at *
        generalize W7.alloc (.cells #[.string ⟨ky.toArray⟩, .slice (some ⟨B, 0, none⟩) gs.length cap] 47) = W8 at *
        have t0 := bt.cell (i := 0) rfl
        have t1 := bt.cell (i := 1) rfl
        have hown := (HJ8.out.more (ext_alloc W8 (.cells #[.string ⟨ky.toArray⟩, .slice (some ⟨B, 0, none⟩) gs.length cap] 47))).row
        rw [HQ0.out] at hown
        have bl := Blk.new W8 #[.string ⟨ky.toArray⟩, .slice (some ⟨B, 0, none⟩) gs.length cap] 47
        have hF : Fl (W8.alloc (.cells #[.string ⟨ky.toArray⟩, .slice (some ⟨B, 0, none⟩) gs.length cap] 47)) (.slice (some ⟨W8.heap.size, 0, none⟩) 1 1) 1 [strV ky, .slice (some ⟨B, 0, none⟩) gs.length cap] := ⟨_, 1, rfl, Nat.le_refl _, by decide, by simp, fun _ => ⟨_, 0, rfl, bl.lt, fun j u hu => by rw [Nat.zero_add]; exact bl.cell (i := j) hu⟩⟩
        have h1c : ∀ u ∈ ([strV ky, .slice (some ⟨B, 0, none⟩) gs.length cap] : List Value), u.oneCell' = true := by intro u hu; simp only [List.mem_cons, List.not_mem_nil, or_false] at hu; rcases hu with rfl | rfl <;> rfl
        have hsz := (HJ8.out.ext.trans (ext_alloc W8 (.cells #[.string ⟨ky.toArray⟩, .slice (some ⟨B, 0, none⟩) gs.length cap] 47))).size
        clear bl
        unfold strV at *
        go_upto_region 12 with (at_builtin; refine wpList_append_fl rfl (.tmp 50) (.tmp 52) 34 rfl w.heap.size 47 i0 _ 2 40 Try.underlying34 HI0.out HZ0.out HZ1.out HZ2.out rfl (by decide) hown hF rfl rfl rfl h1c (by unfold maxLen; omega) (by omega) hsz ?_; intro v' w3 hown' hg hat; clear t0 t1)
        have hjn := RsJ.add (key := ky) HJ1.out HJ8.out hcl8 (by rw [List.length_replicate]; exact HN4.out.1) (by rw [HQ0.out]; exact hown') hg
        have hgr := World.ownsRow.lt HJ1.out.row
        have H3 : Hid (Blk w3 n3 #[.int .i64 s1, .int .i64 s2, .int .i64 s3, .int .i64 s4, .int .i64 s5, .int .i64 s6, .slice (some ⟨b, off, none⟩) ws.length cw].toList) := Lib.hid ((H38.ext (ext_alloc _ _)).kept hg (fun e => by have := (hgr _ e).1; have := H3L.out; omega))
        have H9 : Hid (Blk w3 n9 [strV ky, .int .i64 (gn : Int), .bool d, strV z]) := Lib.hid ((H98.ext (ext_alloc _ _)).kept hg (fun e => HN9.out e))
        have HX := Lib.hid hjn.ext
        clear hown hF h1c hsz hg hat hown' HJ8 hcl8 H38 H98 hgr
        generalize hcsr : List.replicate gs.length Cl.nought = cs at *
        have hlen : cs.length = gs.length := by rw [← hcsr, List.length_replicate]
        rw [← hlen] at hjn
        have HJ := Lib.hid hjn
        have HLN := Lib.hid hlen.symm
        clear hjn hlen
        have HGC : Hid (gn < cs.length) := Lib.hid (by rw [← hcsr, List.length_replicate]; exact HGN.out)
        obtain ⟨pre, hpre⟩ : ∃ p : List RwM, p = [] := ⟨_, rfl⟩
        have HQ : Hid ((pre ++ [(ky, cs, Value.slice (some ⟨B, 0, none⟩) cs.length cap)]).length = q + 1) := Lib.hid (by have := HQ0.out; subst hpre; simp at this ⊢; omega)
        have HQ9 : Hid (pre.length ≤ 8) := Lib.hid (by subst hpre; simp)
        have HMP : Hid ((pre ++ [(ky, cs, Value.slice (some ⟨B, 0, none⟩) cs.length cap)]).map erR = rowsAdd gs (([] : List RwM).map erR) ky) := Lib.hid (by subst hpre; rw [← hcsr]; rfl)
        replace HJ : Hid (RsJ w v' (pre ++ [(ky, cs, Value.slice (some ⟨B, 0, none⟩) cs.length cap)]) w3) := Lib.hid (by subst hpre; exact HJ.out)
        have HOL2 : Hid (∀ x ∈ pre, gs.length = x.2.1.length) := Lib.hid (by subst hpre; simp)
        clear hpre
        clear hcsr
        generalize w3 = WB at *
        generalize v' = vo at *
        generalize hq1 : q + 1 = q' at *
        have hqk2 : q' ≤ k + 1 := by omega
        clear hq1
        -- the cell of the write, and its place
        have hcs0 : gn < cs.length := HGC.out
        obtain ⟨bo, cO, hvo⟩ : ∃ bo cO, vo = .slice (some ⟨bo, 0, none⟩) q' cO := by
          rcases HJ.out.row.2 with ⟨_, hn⟩ | ⟨g, cap', cur, hv, _⟩
          · simp at hn
          · exact ⟨g, cap', by rw [hv, HQ.out]⟩
        subst hvo
        have hq0 : 0 < q' ∧ q' ≤ 9 := by have := HQ.out; have := HQ9.out; simp at *; omega
        obtain ⟨hq0, hq9⟩ := hq0
        have hrow := HJ.out.row
        rw [HQ.out] at hrow
        have hql : (pre ++ [(ky, cs, Value.slice (some ⟨B, 0, none⟩) cs.length cap)])[q' - 1]? = some (ky, cs, .slice (some ⟨B, 0, none⟩) cs.length cap) := by
          have := HQ.out
          simp only [List.length_append, List.length_singleton] at this
          rw [List.getElem?_append_right (by omega), show q' - 1 - pre.length = 0 by omega]
          rfl
        obtain ⟨hr0, hr1⟩ := rwC_get _ _ _ hql
        have hrl := rwC_len (pre ++ [(ky, cs, Value.slice (some ⟨B, 0, none⟩) cs.length cap)])
        rw [HQ.out] at hrl
        have HLV : Hid (WB.cell? ⟨bo, (q' - 1) * 2 + 1, none⟩ = some (.slice (some ⟨B, 0, none⟩) cs.length cap)) := Lib.hid (by rw [World.ownsRow.cellAt hrow _ (by omega)]; exact hr1)
        have hbo : bo < WB.heap.size := (World.ownsRow.lt hrow bo rfl).2
        have hocap : q' ≤ cO := by
          rcases hrow.2 with ⟨hv, _⟩ | ⟨g, cap', cur, hv, _, _, hc, _⟩
          · cases hv
          · injection hv with _ _ hv; omega
        have hocl : cs.length ≤ cap := by
          have hl := (HJ.out.own (ky, cs, .slice (some ⟨B, 0, none⟩) cs.length cap) (by simp)).1
          rcases hl.2 with ⟨hv, _⟩ | ⟨g, cap', cur, hv, _, _, hc, _⟩
          · cases hv
          · injection hv with _ _ hv; omega
        clear hrow hql hr0 hr1 hrl
        go_upto_region 12 with (fail)
        refine wp_region_late_lit 19 (by kernel_rfl) rfl (by kernel_rfl) (by kernel_rfl) (by kernel_rfl) (by kernel_rfl) ?_
        refine tele_move rfl (.inl rfl) rfl (isV (.slice (some ⟨bg, og, none⟩) gs.length cg)) (fun ρ w' h => h) ?_
        refine tele_val rfl (.pointer (some ⟨n9, 1, none⟩)) (fun _ _ _ => rfl) ?_ ?_
        · rintro ρ w' he ⟨h9, -⟩
          have e9 : ρ 9 = .pointer (some ⟨n9, 0, none⟩) := h9
          simp [execOp, evR, e9, go_sem]
        refine tele_val rfl (.int .i64 (gn : Int)) (fun _ _ _ => rfl) ?_ ?_
        · rintro ρ w' he ⟨h56, -⟩
          have e56 : ρ 56 = .pointer (some ⟨n9, 1, none⟩) := h56
          have c0 := (H9.out.ext he).cell (i := 1) rfl
          simp [execOp, evR, e56, c0, go_sem]
        refine tele_val rfl (.pointer (some ⟨bg, og + gn * 2, none⟩)) (fun _ _ _ => rfl) ?_ ?_
        · rintro ρ w' he ⟨h55, h57, -⟩
          have e55 : ρ 55 = .slice (some ⟨bg, og, none⟩) gs.length cg := h55
          have e57 : ρ 57 = .int .i64 (gn : Int) := h57
          exact index_at 2 rfl Try.underlying22 e55 e57 (by omega) (by kernel_rfl)
        refine tele_val rfl (.pointer (some ⟨bg, og + gn * 2 + 1, none⟩)) (fun _ _ _ => rfl) ?_ ?_
        · rintro ρ w' he ⟨h58, -⟩
          have e58 : ρ 58 = .pointer (some ⟨bg, og + gn * 2, none⟩) := h58
          simp [execOp, evR, e58, go_sem]
        refine tele_val rfl (.int .i64 pp) (fun _ _ _ => rfl) ?_ ?_
        · rintro ρ w' he ⟨h59, -⟩
          have e59 : ρ 59 = .pointer (some ⟨bg, og + gn * 2 + 1, none⟩) := h59
          have c0 := ((HX.out.trans he).cell (p := ⟨bg, og + gn * 2 + 1, none⟩) hbg).trans HPP.out
          simp [execOp, evR, e59, c0, go_sem]
        refine tele_val rfl (.pointer (some ⟨n3, 2, none⟩)) (fun _ _ _ => rfl) ?_ ?_
        · rintro ρ w' he ⟨h3, -⟩
          have e3 : ρ 3 = .pointer (some ⟨n3, 0, none⟩) := h3
          simp [execOp, evR, e3, go_sem]
        refine tele_val rfl (.agg #[.int .i64 s3, .int .i64 s4]) (fun _ _ _ => rfl) ?_ ?_
        · rintro ρ w' he ⟨h61, -⟩
          have e61 : ρ 61 = .pointer (some ⟨n3, 2, none⟩) := h61
          have c0 := (H3.out.ext he).cell (i := 2) rfl
          have c1 := (H3.out.ext he).cell (i := 3) rfl
          simp [execOp, evR, e61, c0, c1, go_sem]
        refine tele_val rfl (.pointer (some ⟨n3, 4, none⟩)) (fun _ _ _ => rfl) ?_ ?_
        · rintro ρ w' he ⟨h3, -⟩
          have e3 : ρ 3 = .pointer (some ⟨n3, 0, none⟩) := h3
          simp [execOp, evR, e3, go_sem]
        refine tele_val rfl (.agg #[.int .i64 s5, .int .i64 s6]) (fun _ _ _ => rfl) ?_ ?_
        · rintro ρ w' he ⟨h63, -⟩
          have e63 : ρ 63 = .pointer (some ⟨n3, 4, none⟩) := h63
          have c0 := (H3.out.ext he).cell (i := 4) rfl
          have c1 := (H3.out.ext he).cell (i := 5) rfl
          simp [execOp, evR, e63, c0, c1, go_sem]
        refine tele_val rfl (.pointer (some ⟨n9, 2, none⟩)) (fun _ _ _ => rfl) ?_ ?_
        · rintro ρ w' he ⟨h9, -⟩
          have e9 : ρ 9 = .pointer (some ⟨n9, 0, none⟩) := h9
          simp [execOp, evR, e9, go_sem]
        refine tele_val rfl (.bool d) (fun _ _ _ => rfl) ?_ ?_
        · rintro ρ w' he ⟨h65, -⟩
          have e65 : ρ 65 = .pointer (some ⟨n9, 2, none⟩) := h65
          have c0 := (H9.out.ext he).cell (i := 2) rfl
          simp [execOp, evR, e65, c0, go_sem]
        refine tele_val rfl (.pointer (some ⟨n9, 3, none⟩)) (fun _ _ _ => rfl) ?_ ?_
        · rintro ρ w' he ⟨h9, -⟩
          have e9 : ρ 9 = .pointer (some ⟨n9, 0, none⟩) := h9
          simp [execOp, evR, e9, go_sem]
        refine tele_val rfl (strV z) (fun _ _ _ => rfl) ?_ ?_
        · rintro ρ w' he ⟨h67, -⟩
          have e67 : ρ 67 = .pointer (some ⟨n9, 3, none⟩) := h67
          have c0 := (H9.out.ext he).cell (i := 3) rfl
          simp [execOp, evR, e67, c0, go_sem]
        refine tele_call rfl rfl Try.func30 (by kernel_rfl) (isV (.tuple #[.agg #[.int .i64 x0, .int .i64 x1, .int .i64 x2, .int .i64 x3, .bool x4, strV x5, .int .i64 x6, .int .i64 x7], .int .i64 0])) (fun _ _ _ => rfl) ?_ ?_
        · rintro ρ w' he ⟨h60, h62, h64, h66, h68, -⟩
          have e60 : ρ 60 = .int .i64 pp := h60
          have e62 : ρ 62 = .agg #[.int .i64 s3, .int .i64 s4] := h62
          have e64 : ρ 64 = .agg #[.int .i64 s5, .int .i64 s6] := h64
          have e66 : ρ 66 = .bool d := h66
          have e68 : ρ 68 = strV z := h68
          simp only [evR, List.map_toArray, List.map_cons, List.map_nil, e60, e62, e64, e66, e68]
          have hof := cellOf_any pp s3 s4 s5 s6 d z w' HPO.out.1 HPO.out.2.1 HPO.out.2.2.1 HPO.out.2.2.2.1 HPO.out.2.2.2.2.2 HPO.out.2.2.2.2.1
          rw [HCL.out] at hof
          unfold clV stV vecV at hof
          dsimp only at hof
          refine hof.mono ?_
          rintro e w'' ⟨rfl, h'⟩
          exact ⟨_, rfl, h', rfl⟩
        refine tele_move rfl (.inl rfl) rfl (isV (.tuple #[.agg #[.int .i64 x0, .int .i64 x1, .int .i64 x2, .int .i64 x3, .bool x4, strV x5, .int .i64 x6, .int .i64 x7], .int .i64 0])) (fun ρ w' h => h) ?_
        refine tele_val rfl (.agg #[.int .i64 x0, .int .i64 x1, .int .i64 x2, .int .i64 x3, .bool x4, strV x5, .int .i64 x6, .int .i64 x7]) (fun _ _ _ => rfl) ?_ ?_
        · rintro ρ w' he ⟨h54, -⟩
          have e54 : ρ 54 = .tuple #[.agg #[.int .i64 x0, .int .i64 x1, .int .i64 x2, .int .i64 x3, .bool x4, strV x5, .int .i64 x6, .int .i64 x7], .int .i64 0] := h54
          simp [execOp, evR, e54, go_sem]
        refine tele_val rfl (.int .i64 0) (fun _ _ _ => rfl) ?_ ?_
        · rintro ρ w' he ⟨h54, -⟩
          have e54 : ρ 54 = .tuple #[.agg #[.int .i64 x0, .int .i64 x1, .int .i64 x2, .int .i64 x3, .bool x4, strV x5, .int .i64 x6, .int .i64 x7], .int .i64 0] := h54
          simp [execOp, evR, e54, go_sem]
        refine tele_any rfl (isNewC WB [.int .i64 0, .int .i64 0, .int .i64 0, .int .i64 0, .bool false, .string ⟨#[]⟩, .int .i64 0, .int .i64 0]) ?_ ?_
        · rintro ρ w' he hk
          rw [if_pos (show wantedR _ _ _ = true from rfl)]
          obtain - := hk
          simp only [execOp]
          simp [go_sem]
          exact ⟨ext_alloc _ _, _, rfl, he.size, Blk.new _ _ _⟩
        refine tele_move rfl (.inr rfl) rfl (isV (.int .i64 0)) (fun ρ w' h => h) ?_
        refine tele_nil ?_
        rintro ρ w' hext ⟨f14, f13, f71, f70, f54, f69, f68, f67, f66, f65, f64, f63, f62, f61, f60, f59, f58, f57, f56, f55, -⟩
        intro Q' hQ'
        clear f55
        clear f56
        clear f57
        clear f58
        clear f59
        clear f60
        clear f61
        clear f62
        clear f63
        clear f64
        clear f65
        clear f66
        clear f67
        clear f68
        clear f69
        replace f54 : ρ 54 = .tuple #[.agg #[.int .i64 x0, .int .i64 x1, .int .i64 x2, .int .i64 x3, .bool x4, strV x5, .int .i64 x6, .int .i64 x7], .int .i64 0] := f54
        replace f70 : ρ 70 = .agg #[.int .i64 x0, .int .i64 x1, .int .i64 x2, .int .i64 x3, .bool x4, strV x5, .int .i64 x6, .int .i64 x7] := f70
        replace f71 : ρ 71 = .int .i64 0 := f71
        replace f13 : (isNewC WB [.int .i64 0, .int .i64 0, .int .i64 0, .int .i64 0, .bool false, .string ⟨#[]⟩, .int .i64 0, .int .i64 0]).rel (ρ 13) w' := f13
        clear f14
        simp only [puts, Act.put, List.setIfInBounds_toArray, List.set_cons_zero, List.set_cons_succ]
        obtain ⟨nk, ek, hnk, bk⟩ := f13
        rw [ek, f70]
        clear ek
        have h3l := H3.out.lt
        have h9l := H9.out.lt
        have hn3k : n3 ≠ nk := by omega
        have hn9k : n9 ≠ nk := by omega
        have hxb := HX.out.size
        have hkw : w.heap.size ≤ nk := by omega
        have kz0 := bk.thaw 0
        have kz1 := bk.thaw 1
        have kz2 := bk.thaw 2
        have kz3 := bk.thaw 3
        have kz4 := bk.thaw 4
        have kz5 := bk.thaw 5
        have kz6 := bk.thaw 6
        have kz7 := bk.thaw 7
        have ky0 := bk.cell (i := 0) rfl
        have ky1 := bk.cell (i := 1) rfl
        have ky2 := bk.cell (i := 2) rfl
        have ky3 := bk.cell (i := 3) rfl
        have ky4 := bk.cell (i := 4) rfl
        have ky5 := bk.cell (i := 5) rfl
        have ky6 := bk.cell (i := 6) rfl
        have ky7 := bk.cell (i := 7) rfl
        have hk2 := set8_blk bk (.int .i64 x0) (.int .i64 x1) (.int .i64 x2) (.int .i64 x3) (.bool x4) (strV x5) (.int .i64 x6) (.int .i64 x7)
        have hx2 := set8_ext (Ext.refl WB |>.trans hext) hnk (.int .i64 x0) (.int .i64 x1) (.int .i64 x2) (.int .i64 x3) (.bool x4) (strV x5) (.int .i64 x6) (.int .i64 x7)
        unfold set8 at hk2 hx2
        have HKS := Lib.hid hk2
        have HXS := Lib.hid hx2
        clear hk2 hx2 bk hext
        unfold strV at HKS HXS
        unfold strV
        go_wp2_with fail
        clear kz0 kz1 kz2 kz3 kz4 kz5 kz6 kz7 ky0 ky1 ky2 ky3 ky4 ky5 ky6 ky7
        have HJ2 := Lib.hid (HJ.out.more HXS.out)
        have H32 := Lib.hid (H3.out.ext HXS.out)
        have H92 := Lib.hid (H9.out.ext HXS.out)
        have HXX := Lib.hid (HX.out.trans HXS.out)
        have HLV2 := Lib.hid ((HXS.out.cell (p := ⟨bo, (q' - 1) * 2 + 1, none⟩) hbo).trans HLV.out)
        have hbo2 := Nat.lt_of_lt_of_le hbo HXS.out.size
        have hk3 := HKS.out
        have HXS2 := HXS
        clear HJ H3 H9 HX HLV HXS HKS
        generalize (((((((w'.setCell ⟨nk, 0, none⟩ (.int .i64 x0)).setCell ⟨nk, 1, none⟩ (.int .i64 x1)).setCell ⟨nk, 2, none⟩ (.int .i64 x2)).setCell ⟨nk, 3, none⟩ (.int .i64 x3)).setCell ⟨nk, 4, none⟩ (.bool x4)).setCell ⟨nk, 5, none⟩ (.string ⟨x5.toArray⟩)).setCell ⟨nk, 6, none⟩ (.int .i64 x6)).setCell ⟨nk, 7, none⟩ (.int .i64 x7) = WC at *
        have HK : Hid (Blk WC nk [.int .i64 x0, .int .i64 x1, .int .i64 x2, .int .i64 x3, .bool x4, strV x5, .int .i64 x6, .int .i64 x7]) := Lib.hid hk3
        have HJ := HJ2
        have H3 := H32
        have H9 := H92
        have HX := HXX
        have HLV := HLV2
        have hbo := hbo2
        clear hk3 HJ2 H32 H92 HXX HLV2 hbo2
        refine wp_region_last_lit (by kernel_rfl) rfl (by kernel_rfl) (by kernel_rfl) ?_
        refine tele_move rfl (.inl rfl) rfl (isV (.slice (some ⟨bo, 0, none⟩) q' cO)) (fun ρ w' h => h) ?_
        refine tele_move rfl (.inl rfl) rfl (isV (.slice (some ⟨bo, 0, none⟩) q' cO)) (fun ρ w' h => h) ?_
        refine tele_val rfl (.int .i64 ((q' : Nat) : Int)) (fun _ _ _ => rfl) ?_ ?_
        · rintro ρ w' he ⟨h73, -⟩
          have e73 : ρ 73 = .slice (some ⟨bo, 0, none⟩) q' cO := h73
          simp [execOp, evR, e73, go_sem]
        refine tele_val rfl (.int .i64 ((q' - 1 : Nat) : Int)) (fun _ _ _ => rfl) ?_ ?_
        · rintro ρ w' he ⟨h74, -⟩
          have e74 : ρ 74 = .int .i64 ((q' : Nat) : Int) := h74
          have hw1 : IntKind.i64.wrap ((q' : Int) - 1) = ((q' - 1 : Nat) : Int) := by rw [IntWalk.i64_in _ (by omega)]; omega
          simp [execOp, evR, e74, hw1, go_sem]
        refine tele_val rfl (.pointer (some ⟨bo, 0 + (q' - 1) * 2, none⟩)) (fun _ _ _ => rfl) ?_ ?_
        · rintro ρ w' he ⟨h72, h75, -⟩
          have e72 : ρ 72 = .slice (some ⟨bo, 0, none⟩) q' cO := h72
          have e75 : ρ 75 = .int .i64 ((q' - 1 : Nat) : Int) := h75
          exact index_at 2 rfl Try.underlying34 e72 e75 (by omega) (by kernel_rfl)
        refine tele_val rfl (.pointer (some ⟨bo, 0 + (q' - 1) * 2 + 1, none⟩)) (fun _ _ _ => rfl) ?_ ?_
        · rintro ρ w' he ⟨h76, -⟩
          have e76 : ρ 76 = .pointer (some ⟨bo, 0 + (q' - 1) * 2, none⟩) := h76
          simp [execOp, evR, e76, go_sem]
        refine tele_val rfl (.slice (some ⟨B, 0, none⟩) cs.length cap) (fun _ _ _ => rfl) ?_ ?_
        · rintro ρ w' he ⟨h77, -⟩
          have e77 : ρ 77 = .pointer (some ⟨bo, 0 + (q' - 1) * 2 + 1, none⟩) := h77
          have c0 := (he.cell (p := ⟨bo, (q' - 1) * 2 + 1, none⟩) hbo).trans HLV.out
          simp [execOp, evR, e77, c0, go_sem]
        refine tele_val rfl (.pointer (some ⟨n9, 1, none⟩)) (fun _ _ _ => rfl) ?_ ?_
        · rintro ρ w' he ⟨h9, -⟩
          have e9 : ρ 9 = .pointer (some ⟨n9, 0, none⟩) := h9
          simp [execOp, evR, e9, go_sem]
        refine tele_val rfl (.int .i64 (gn : Int)) (fun _ _ _ => rfl) ?_ ?_
        · rintro ρ w' he ⟨h79, -⟩
          have e79 : ρ 79 = .pointer (some ⟨n9, 1, none⟩) := h79
          have c0 := (H9.out.ext he).cell (i := 1) rfl
          simp [execOp, evR, e79, c0, go_sem]
        refine tele_val rfl (.agg #[.int .i64 x0, .int .i64 x1, .int .i64 x2, .int .i64 x3, .bool x4, strV x5, .int .i64 x6, .int .i64 x7]) (fun _ _ _ => rfl) ?_ ?_
        · rintro ρ w' he ⟨h13, -⟩
          have e13 : ρ 13 = .pointer (some ⟨nk, 0, none⟩) := h13
          have c0 := (HK.out.ext he).cell (i := 0) rfl
          have c1 := (HK.out.ext he).cell (i := 1) rfl
          have c2 := (HK.out.ext he).cell (i := 2) rfl
          have c3 := (HK.out.ext he).cell (i := 3) rfl
          have c4 := (HK.out.ext he).cell (i := 4) rfl
          have c5 := (HK.out.ext he).cell (i := 5) rfl
          have c6 := (HK.out.ext he).cell (i := 6) rfl
          have c7 := (HK.out.ext he).cell (i := 7) rfl
          simp [execOp, evR, e13, c0, c1, c2, c3, c4, c5, c6, c7, go_sem]
        refine tele_val rfl (.pointer (some ⟨B, 0 + gn * 8, none⟩)) (fun _ _ _ => rfl) ?_ ?_
        · rintro ρ w' he ⟨h78, h80, -⟩
          have e78 : ρ 78 = .slice (some ⟨B, 0, none⟩) cs.length cap := h78
          have e80 : ρ 80 = .int .i64 (gn : Int) := h80
          exact index_at 8 rfl Try.underlying45 e78 e80 (by omega) (by kernel_rfl)
        refine tele_nil ?_
        rintro ρ w' hext ⟨f82, f81, f80, f79, f78, f77, f76, f75, f74, f73, f72, -⟩
        clear f72
        clear f73
        clear f74
        clear f75
        clear f76
        clear f77
        clear f78
        clear f79
        clear f80
        replace f81 : ρ 81 = .agg #[.int .i64 x0, .int .i64 x1, .int .i64 x2, .int .i64 x3, .bool x4, strV x5, .int .i64 x6, .int .i64 x7] := f81
        replace f82 : ρ 82 = .pointer (some ⟨B, 0 + gn * 8, none⟩) := f82
        simp only [puts, Act.put, List.setIfInBounds_toArray, List.set_cons_zero, List.set_cons_succ]
        rw [Nat.zero_add] at f82
        rw [f82, f81]
        have HJ3 := Lib.hid (HJ.out.more hext)
        have H33 := Lib.hid (H3.out.ext hext)
        clear HJ H9 HK HLV HX
        have hl := (HJ3.out.own (ky, cs, .slice (some ⟨B, 0, none⟩) cs.length cap) (by simp)).1
        unfold ClsO at hl
        obtain ⟨⟨o0, o1, o2, o3, o4, o5, o6, o7⟩, hco⟩ : ∃ x, cs[gn]? = some x := ⟨_, List.getElem?_eq_getElem hcs0⟩
        have hcg := clsC_get cs gn _ hco
        have y0 := (World.ownsRow.cellAt hl (gn * 8 + 0) (by omega)).trans (hcg 0 (by omega))
        have y1 := (World.ownsRow.cellAt hl (gn * 8 + 1) (by omega)).trans (hcg 1 (by omega))
        have y2 := (World.ownsRow.cellAt hl (gn * 8 + 2) (by omega)).trans (hcg 2 (by omega))
        have y3 := (World.ownsRow.cellAt hl (gn * 8 + 3) (by omega)).trans (hcg 3 (by omega))
        have y4 := (World.ownsRow.cellAt hl (gn * 8 + 4) (by omega)).trans (hcg 4 (by omega))
        have y5 := (World.ownsRow.cellAt hl (gn * 8 + 5) (by omega)).trans (hcg 5 (by omega))
        have y6 := (World.ownsRow.cellAt hl (gn * 8 + 6) (by omega)).trans (hcg 6 (by omega))
        have y7 := (World.ownsRow.cellAt hl (gn * 8 + 7) (by omega)).trans (hcg 7 (by omega))
        simp only [clC, List.getElem?_cons_zero, List.getElem?_cons_succ, Nat.add_zero] at y0 y1 y2 y3 y4 y5 y6 y7
        have f0 := World.ownsRow.frozenAt hl (gn * 8)
        have f1 := World.ownsRow.frozenAt hl (gn * 8 + 1)
        have f2 := World.ownsRow.frozenAt hl (gn * 8 + 2)
        have f3' := World.ownsRow.frozenAt hl (gn * 8 + 3)
        have f4 := World.ownsRow.frozenAt hl (gn * 8 + 4)
        have f5 := World.ownsRow.frozenAt hl (gn * 8 + 5)
        have f6 := World.ownsRow.frozenAt hl (gn * 8 + 6)
        have f7 := World.ownsRow.frozenAt hl (gn * 8 + 7)
        have hB := row_typed hl B rfl
        have hput := HJ3.out.put (x := ⟨x0, x1, x2, x3, x4, x5, x6, x7⟩) hcs0
        have hBz := hB.1
        have h3f := H33.out.kept (set8o_gb w' B (gn * 8) ⟨x0, x1, x2, x3, x4, x5, x6, x7⟩) (fun e => by injection e with e; have := H3L.out; omega)
        unfold set8o at hput h3f
        dsimp only at hput h3f
        have HPT := Lib.hid hput
        have H3F := Lib.hid h3f
        clear hput h3f hl hcg hco H33 HJ3 hB hBz hext
        unfold strV at *
        go_wp2_with fail
        clear y0 y1 y2 y3 y4 y5 y6 y7 f0 f1 f2 f3' f4 f5 f6 f7
        go_roundw
        case rel => exact ⟨k + 1, pre ++ [(ky, cs.set gn ⟨x0, x1, x2, x3, x4, x5, x6, x7⟩, .slice (some ⟨B, 0, none⟩) cs.length cap)], by go_num, HPT, H3F, Lib.hid (by
          have h := HMP.out
          rw [rowsF_step HGET.out]
          unfold rowsStep
          dsimp only
          rw [← HMK.out, ← h, List.map_append]
          simp only [List.map_append, List.map_cons, List.map_nil, erR]
          rw [rowsPut_snoc, HCW.out, Int.toNat_natCast]), by omega, by have := HQ.out; simp only [List.length_append, List.length_singleton] at this ⊢; omega, Lib.hid (by
          intro y hy
          rcases List.mem_append.1 hy with hy | hy
          · exact HOL2.out y hy
          · rw [List.mem_singleton.1 hy]
            rw [List.length_set]
            exact HLN.out)⟩
        case measure => simp [intOf]; omega
      · have houts' : outs = pre0 ++ [(lk, cs0, vlast)] := by rw [houts]; simp
        subst houts'
        clear houts
        have hq0 : 0 < q := by have := HQ0.out; simp at this; omega
        obtain ⟨bo, cO2, hvo⟩ : ∃ bo c, Value.slice Ao q cO = .slice (some ⟨bo, 0, none⟩) q c := by
          rcases HJ0.out.row.2 with ⟨_, hn⟩ | ⟨g, cap', cur, hv, _⟩
          · simp at hn
          · exact ⟨g, cap', by rw [hv, HQ0.out]⟩
        injection hvo with hA _ hC
        subst hA hC
        have hrow := HJ0.out.row
        rw [HQ0.out] at hrow
        have hql : (pre0 ++ [(lk, cs0, vlast)])[q - 1]? = some (lk, cs0, vlast) := by
          have := HQ0.out
          simp only [List.length_append, List.length_singleton] at this
          rw [List.getElem?_append_right (by omega), show q - 1 - pre0.length = 0 by omega]
          rfl
        obtain ⟨hr0, -⟩ := rwC_get _ _ _ hql
        have hrl := rwC_len (pre0 ++ [(lk, cs0, vlast)])
        rw [HQ0.out] at hrl
        have HLK : Hid (W5.cell? ⟨bo, (q - 1) * 2, none⟩ = some (strV lk)) := Lib.hid (by rw [World.ownsRow.cellAt hrow _ (by omega)]; exact hr0)
        have hbo : bo < W5.heap.size := (World.ownsRow.lt hrow bo rfl).2
        have hocap : q ≤ cO := by
          rcases hrow.2 with ⟨hv, _⟩ | ⟨g, cap', cur, hv, _, _, hc, _⟩
          · cases hv
          · injection hv with _ _ hv; omega
        clear hrow hql hr0 hrl
        obtain ⟨q9, Q41⟩ : ∃ q : Bool, q = (!(lk == ky)) := ⟨_, rfl⟩
        refine wp_region_mono (by kernel_rfl) (by kernel_rfl) ?_
        refine tele_move rfl (.inl rfl) rfl (isV (.int .i64 ((q : Nat) : Int))) (fun ρ w' h => h) ?_
        refine tele_val rfl (.bool false) (fun _ _ _ => rfl) ?_ ?_
        · rintro ρ w' he ⟨h30, -⟩
          have e30 : ρ 30 = .int .i64 ((q : Nat) : Int) := h30
          simp [execOp, evR, e30, go_sem]
          omega
        refine tele_move rfl (.inl rfl) rfl (isV (.bool false)) (fun ρ w' h => h) ?_
        refine tele_val rfl (.slice (some ⟨bo, 0, none⟩) q cO) (fun ρ w' hk => by obtain ⟨_, hg, -⟩ := hk; have eg : ρ 32 = .bool false := hg; simp [wantedR, Region.wanted, asBoolR, eg]) ?_ ?_
        · rintro ρ w' he ⟨h7, hgd, -⟩
          have e7 : ρ 7 = .slice (some ⟨bo, 0, none⟩) q cO := h7
          simp [execOp, evR, e7, go_sem]
        refine tele_val rfl (.int .i64 ((q : Nat) : Int)) (fun ρ w' hk => by obtain ⟨_, hg, -⟩ := hk; have eg : ρ 32 = .bool false := hg; simp [wantedR, Region.wanted, asBoolR, eg]) ?_ ?_
        · rintro ρ w' he ⟨h10, hgd, -⟩
          have e10 : ρ 10 = .int .i64 ((q : Nat) : Int) := h10
          simp [execOp, evR, e10, go_sem]
        refine tele_val rfl (.int .i64 ((q - 1 : Nat) : Int)) (fun ρ w' hk => by obtain ⟨_, hg, -⟩ := hk; have eg : ρ 32 = .bool false := hg; simp [wantedR, Region.wanted, asBoolR, eg]) ?_ ?_
        · rintro ρ w' he ⟨h34, hgd, -⟩
          have e34 : ρ 34 = .int .i64 ((q : Nat) : Int) := h34
          have hw1 : IntKind.i64.wrap ((q : Int) - 1) = ((q - 1 : Nat) : Int) := by rw [IntWalk.i64_in _ (by omega)]; omega
          simp [execOp, evR, e34, hw1, go_sem]
        refine tele_val rfl (.pointer (some ⟨bo, 0 + (q - 1) * 2, none⟩)) (fun ρ w' hk => by obtain ⟨_, _, hg, -⟩ := hk; have eg : ρ 32 = .bool false := hg; simp [wantedR, Region.wanted, asBoolR, eg]) ?_ ?_
        · rintro ρ w' he ⟨h33, h35, hgd, -⟩
          have e33 : ρ 33 = .slice (some ⟨bo, 0, none⟩) q cO := h33
          have e35 : ρ 35 = .int .i64 ((q - 1 : Nat) : Int) := h35
          exact index_at 2 rfl Try.underlying34 e33 e35 (by omega) (by kernel_rfl)
        refine tele_val rfl (.pointer (some ⟨bo, 0 + (q - 1) * 2, none⟩)) (fun ρ w' hk => by obtain ⟨_, hg, -⟩ := hk; have eg : ρ 32 = .bool false := hg; simp [wantedR, Region.wanted, asBoolR, eg]) ?_ ?_
        · rintro ρ w' he ⟨h36, hgd, -⟩
          have e36 : ρ 36 = .pointer (some ⟨bo, 0 + (q - 1) * 2, none⟩) := h36
          simp [execOp, evR, e36, go_sem]
        refine tele_val rfl (strV lk) (fun ρ w' hk => by obtain ⟨_, hg, -⟩ := hk; have eg : ρ 32 = .bool false := hg; simp [wantedR, Region.wanted, asBoolR, eg]) ?_ ?_
        · rintro ρ w' he ⟨h37, hgd, -⟩
          have e37 : ρ 37 = .pointer (some ⟨bo, 0 + (q - 1) * 2, none⟩) := h37
          have c0 := (he.cell (p := ⟨bo, (q - 1) * 2, none⟩) hbo).trans HLK.out
          simp [execOp, evR, e37, c0, go_sem]
        refine tele_val rfl (.pointer (some ⟨n9, 0, none⟩)) (fun ρ w' hk => by obtain ⟨_, hg, -⟩ := hk; have eg : ρ 32 = .bool false := hg; simp [wantedR, Region.wanted, asBoolR, eg]) ?_ ?_
        · rintro ρ w' he ⟨h9, hgd, -⟩
          have e9 : ρ 9 = .pointer (some ⟨n9, 0, none⟩) := h9
          simp [execOp, evR, e9, go_sem]
        refine tele_val rfl (strV ky) (fun ρ w' hk => by obtain ⟨_, hg, -⟩ := hk; have eg : ρ 32 = .bool false := hg; simp [wantedR, Region.wanted, asBoolR, eg]) ?_ ?_
        · rintro ρ w' he ⟨h39, hgd, -⟩
          have e39 : ρ 39 = .pointer (some ⟨n9, 0, none⟩) := h39
          have c0 := (H9.out.ext he).cell (i := 0) rfl
          simp [execOp, evR, e39, c0, go_sem]
        refine tele_val rfl (.bool q9) (fun ρ w' hk => by obtain ⟨_, _, hg, -⟩ := hk; have eg : ρ 32 = .bool false := hg; simp [wantedR, Region.wanted, asBoolR, eg]) ?_ ?_
        · rintro ρ w' he ⟨h38, h40, hgd, -⟩
          have e38 : ρ 38 = strV lk := h38
          have e40 : ρ 40 = strV ky := h40
          exact (exec_neq_str rfl e38 e40).trans (by rw [Q41])
        refine tele_val rfl (.bool q9) (fun _ _ _ => rfl) ?_ ?_
        · rintro ρ w' he ⟨h32, h41, -⟩
          have e32 : ρ 32 = .bool false := h32
          have e41 : ρ 41 = .bool q9 := h41
          simp [execOp, evR, e32, e41, go_sem]
        refine tele_nil ?_
        rintro ρ w' hext ⟨f42, f41, f40, f39, f38, f37, f36, f35, f34, f33, f32, f31, f30, -⟩
        clear f30
        clear f31
        clear f32
        clear f33
        clear f34
        clear f35
        clear f36
        clear f37
        clear f38
        clear f39
        clear f40
        clear f41
        replace f42 : ρ 42 = .bool q9 := f42
        simp only [puts, Act.put, List.setIfInBounds_toArray, List.set_cons_zero, List.set_cons_succ]
        rw [f42, Q41]
        clear f42 Q41 H3 H9 HX HLK hbo hocap hq0
        by_cases hlk : lk = ky
        · subst hlk
          have hlk0 : (!(lk == lk)) = false := by simp
          rw [hlk0]
          have HJ : Hid (RsJ w (.slice (some ⟨bo, 0, none⟩) q cO) (pre0 ++ [(lk, cs0, vlast)]) w') := Lib.hid (HJ0.out.more hext)
          have H3 := Lib.hid (H30.out.ext hext)
          have H9 := Lib.hid (H90.out.ext hext)
          have HX := Lib.hid HJ.out.ext
          clear HJ0 H30 H90 hext hlk0
          generalize w' = WB at *
          obtain ⟨hlo, hlp⟩ := HJ.out.own (lk, cs0, vlast) (by simp)
          obtain ⟨B, cap, hvl, -, -⟩ := own_some hlo hlp
          dsimp only at hvl
          subst hvl
          have HLN : Hid (gs.length = cs0.length) := Lib.hid (HOL.out (lk, cs0, .slice (some ⟨B, 0, none⟩) cs0.length cap) (by simp))
          have HOL2 : Hid (∀ x ∈ pre0, gs.length = x.2.1.length) := Lib.hid (fun y hy => HOL.out y (List.mem_append_left _ hy))
          have HGC : Hid (gn < cs0.length) := Lib.hid (by have h1 := HLN.out; have h2 := HGN.out; omega)
          have HQ := HQ0
          have HQ9 : Hid (pre0.length ≤ 8) := Lib.hid (by have := HQ0.out; simp at this; omega)
          have HMP : Hid ((pre0 ++ [(lk, cs0, Value.slice (some ⟨B, 0, none⟩) cs0.length cap)]).map erR = rowsAdd gs ((pre0 ++ [(lk, cs0, Value.slice (some ⟨B, 0, none⟩) cs0.length cap)]).map erR) lk) := Lib.hid (by
            unfold rowsAdd
            rw [if_pos]
            simp [erR])
          clear hlo hlp HQ0
          generalize hvo0 : Value.slice (some ⟨bo, 0, none⟩) q cO = vo at *
          clear hvo0
          -- the cell of the write, and its place
          have hcs0 : gn < cs0.length := HGC.out
          obtain ⟨bo, cO, hvo⟩ : ∃ bo cO, vo = .slice (some ⟨bo, 0, none⟩) q cO := by
            rcases HJ.out.row.2 with ⟨_, hn⟩ | ⟨g, cap', cur, hv, _⟩
            · simp at hn
            · exact ⟨g, cap', by rw [hv, HQ.out]⟩
          subst hvo
          have hq0 : 0 < q ∧ q ≤ 9 := by have := HQ.out; have := HQ9.out; simp at *; omega
          obtain ⟨hq0, hq9⟩ := hq0
          have hrow := HJ.out.row
          rw [HQ.out] at hrow
          have hql : (pre0 ++ [(lk, cs0, Value.slice (some ⟨B, 0, none⟩) cs0.length cap)])[q - 1]? = some (lk, cs0, .slice (some ⟨B, 0, none⟩) cs0.length cap) := by
            have := HQ.out
            simp only [List.length_append, List.length_singleton] at this
            rw [List.getElem?_append_right (by omega), show q - 1 - pre0.length = 0 by omega]
            rfl
          obtain ⟨hr0, hr1⟩ := rwC_get _ _ _ hql
          have hrl := rwC_len (pre0 ++ [(lk, cs0, Value.slice (some ⟨B, 0, none⟩) cs0.length cap)])
          rw [HQ.out] at hrl
          have HLV : Hid (WB.cell? ⟨bo, (q - 1) * 2 + 1, none⟩ = some (.slice (some ⟨B, 0, none⟩) cs0.length cap)) := Lib.hid (by rw [World.ownsRow.cellAt hrow _ (by omega)]; exact hr1)
          have hbo : bo < WB.heap.size := (World.ownsRow.lt hrow bo rfl).2
          have hocap : q ≤ cO := by
            rcases hrow.2 with ⟨hv, _⟩ | ⟨g, cap', cur, hv, _, _, hc, _⟩
            · cases hv
            · injection hv with _ _ hv; omega
          have hocl : cs0.length ≤ cap := by
            have hl := (HJ.out.own (lk, cs0, .slice (some ⟨B, 0, none⟩) cs0.length cap) (by simp)).1
            rcases hl.2 with ⟨hv, _⟩ | ⟨g, cap', cur, hv, _, _, hc, _⟩
            · cases hv
            · injection hv with _ _ hv; omega
          clear hrow hql hr0 hr1 hrl
          go_upto_region 12 with (fail)
          refine wp_region_late_lit 19 (by kernel_rfl) rfl (by kernel_rfl) (by kernel_rfl) (by kernel_rfl) (by kernel_rfl) ?_
          refine tele_move rfl (.inl rfl) rfl (isV (.slice (some ⟨bg, og, none⟩) gs.length cg)) (fun ρ w' h => h) ?_
          refine tele_val rfl (.pointer (some ⟨n9, 1, none⟩)) (fun _ _ _ => rfl) ?_ ?_
          · rintro ρ w' he ⟨h9, -⟩
            have e9 : ρ 9 = .pointer (some ⟨n9, 0, none⟩) := h9
            simp [execOp, evR, e9, go_sem]
          refine tele_val rfl (.int .i64 (gn : Int)) (fun _ _ _ => rfl) ?_ ?_
          · rintro ρ w' he ⟨h56, -⟩
            have e56 : ρ 56 = .pointer (some ⟨n9, 1, none⟩) := h56
            have c0 := (H9.out.ext he).cell (i := 1) rfl
            simp [execOp, evR, e56, c0, go_sem]
          refine tele_val rfl (.pointer (some ⟨bg, og + gn * 2, none⟩)) (fun _ _ _ => rfl) ?_ ?_
          · rintro ρ w' he ⟨h55, h57, -⟩
            have e55 : ρ 55 = .slice (some ⟨bg, og, none⟩) gs.length cg := h55
            have e57 : ρ 57 = .int .i64 (gn : Int) := h57
            exact index_at 2 rfl Try.underlying22 e55 e57 (by omega) (by kernel_rfl)
          refine tele_val rfl (.pointer (some ⟨bg, og + gn * 2 + 1, none⟩)) (fun _ _ _ => rfl) ?_ ?_
          · rintro ρ w' he ⟨h58, -⟩
            have e58 : ρ 58 = .pointer (some ⟨bg, og + gn * 2, none⟩) := h58
            simp [execOp, evR, e58, go_sem]
          refine tele_val rfl (.int .i64 pp) (fun _ _ _ => rfl) ?_ ?_
          · rintro ρ w' he ⟨h59, -⟩
            have e59 : ρ 59 = .pointer (some ⟨bg, og + gn * 2 + 1, none⟩) := h59
            have c0 := ((HX.out.trans he).cell (p := ⟨bg, og + gn * 2 + 1, none⟩) hbg).trans HPP.out
            simp [execOp, evR, e59, c0, go_sem]
          refine tele_val rfl (.pointer (some ⟨n3, 2, none⟩)) (fun _ _ _ => rfl) ?_ ?_
          · rintro ρ w' he ⟨h3, -⟩
            have e3 : ρ 3 = .pointer (some ⟨n3, 0, none⟩) := h3
            simp [execOp, evR, e3, go_sem]
          refine tele_val rfl (.agg #[.int .i64 s3, .int .i64 s4]) (fun _ _ _ => rfl) ?_ ?_
          · rintro ρ w' he ⟨h61, -⟩
            have e61 : ρ 61 = .pointer (some ⟨n3, 2, none⟩) := h61
            have c0 := (H3.out.ext he).cell (i := 2) rfl
            have c1 := (H3.out.ext he).cell (i := 3) rfl
            simp [execOp, evR, e61, c0, c1, go_sem]
          refine tele_val rfl (.pointer (some ⟨n3, 4, none⟩)) (fun _ _ _ => rfl) ?_ ?_
          · rintro ρ w' he ⟨h3, -⟩
            have e3 : ρ 3 = .pointer (some ⟨n3, 0, none⟩) := h3
            simp [execOp, evR, e3, go_sem]
          refine tele_val rfl (.agg #[.int .i64 s5, .int .i64 s6]) (fun _ _ _ => rfl) ?_ ?_
          · rintro ρ w' he ⟨h63, -⟩
            have e63 : ρ 63 = .pointer (some ⟨n3, 4, none⟩) := h63
            have c0 := (H3.out.ext he).cell (i := 4) rfl
            have c1 := (H3.out.ext he).cell (i := 5) rfl
            simp [execOp, evR, e63, c0, c1, go_sem]
          refine tele_val rfl (.pointer (some ⟨n9, 2, none⟩)) (fun _ _ _ => rfl) ?_ ?_
          · rintro ρ w' he ⟨h9, -⟩
            have e9 : ρ 9 = .pointer (some ⟨n9, 0, none⟩) := h9
            simp [execOp, evR, e9, go_sem]
          refine tele_val rfl (.bool d) (fun _ _ _ => rfl) ?_ ?_
          · rintro ρ w' he ⟨h65, -⟩
            have e65 : ρ 65 = .pointer (some ⟨n9, 2, none⟩) := h65
            have c0 := (H9.out.ext he).cell (i := 2) rfl
            simp [execOp, evR, e65, c0, go_sem]
          refine tele_val rfl (.pointer (some ⟨n9, 3, none⟩)) (fun _ _ _ => rfl) ?_ ?_
          · rintro ρ w' he ⟨h9, -⟩
            have e9 : ρ 9 = .pointer (some ⟨n9, 0, none⟩) := h9
            simp [execOp, evR, e9, go_sem]
          refine tele_val rfl (strV z) (fun _ _ _ => rfl) ?_ ?_
          · rintro ρ w' he ⟨h67, -⟩
            have e67 : ρ 67 = .pointer (some ⟨n9, 3, none⟩) := h67
            have c0 := (H9.out.ext he).cell (i := 3) rfl
            simp [execOp, evR, e67, c0, go_sem]
          refine tele_call rfl rfl Try.func30 (by kernel_rfl) (isV (.tuple #[.agg #[.int .i64 x0, .int .i64 x1, .int .i64 x2, .int .i64 x3, .bool x4, strV x5, .int .i64 x6, .int .i64 x7], .int .i64 0])) (fun _ _ _ => rfl) ?_ ?_
          · rintro ρ w' he ⟨h60, h62, h64, h66, h68, -⟩
            have e60 : ρ 60 = .int .i64 pp := h60
            have e62 : ρ 62 = .agg #[.int .i64 s3, .int .i64 s4] := h62
            have e64 : ρ 64 = .agg #[.int .i64 s5, .int .i64 s6] := h64
            have e66 : ρ 66 = .bool d := h66
            have e68 : ρ 68 = strV z := h68
            simp only [evR, List.map_toArray, List.map_cons, List.map_nil, e60, e62, e64, e66, e68]
            have hof := cellOf_any pp s3 s4 s5 s6 d z w' HPO.out.1 HPO.out.2.1 HPO.out.2.2.1 HPO.out.2.2.2.1 HPO.out.2.2.2.2.2 HPO.out.2.2.2.2.1
            rw [HCL.out] at hof
            unfold clV stV vecV at hof
            dsimp only at hof
            refine hof.mono ?_
            rintro e w'' ⟨rfl, h'⟩
            exact ⟨_, rfl, h', rfl⟩
          refine tele_move rfl (.inl rfl) rfl (isV (.tuple #[.agg #[.int .i64 x0, .int .i64 x1, .int .i64 x2, .int .i64 x3, .bool x4, strV x5, .int .i64 x6, .int .i64 x7], .int .i64 0])) (fun ρ w' h => h) ?_
          refine tele_val rfl (.agg #[.int .i64 x0, .int .i64 x1, .int .i64 x2, .int .i64 x3, .bool x4, strV x5, .int .i64 x6, .int .i64 x7]) (fun _ _ _ => rfl) ?_ ?_
          · rintro ρ w' he ⟨h54, -⟩
            have e54 : ρ 54 = .tuple #[.agg #[.int .i64 x0, .int .i64 x1, .int .i64 x2, .int .i64 x3, .bool x4, strV x5, .int .i64 x6, .int .i64 x7], .int .i64 0] := h54
            simp [execOp, evR, e54, go_sem]
          refine tele_val rfl (.int .i64 0) (fun _ _ _ => rfl) ?_ ?_
          · rintro ρ w' he ⟨h54, -⟩
            have e54 : ρ 54 = .tuple #[.agg #[.int .i64 x0, .int .i64 x1, .int .i64 x2, .int .i64 x3, .bool x4, strV x5, .int .i64 x6, .int .i64 x7], .int .i64 0] := h54
            simp [execOp, evR, e54, go_sem]
          refine tele_any rfl (isNewC WB [.int .i64 0, .int .i64 0, .int .i64 0, .int .i64 0, .bool false, .string ⟨#[]⟩, .int .i64 0, .int .i64 0]) ?_ ?_
          · rintro ρ w' he hk
            rw [if_pos (show wantedR _ _ _ = true from rfl)]
            obtain - := hk
            simp only [execOp]
            simp [go_sem]
            exact ⟨ext_alloc _ _, _, rfl, he.size, Blk.new _ _ _⟩
          refine tele_move rfl (.inr rfl) rfl (isV (.int .i64 0)) (fun ρ w' h => h) ?_
          refine tele_nil ?_
          rintro ρ w' hext ⟨f14, f13, f71, f70, f54, f69, f68, f67, f66, f65, f64, f63, f62, f61, f60, f59, f58, f57, f56, f55, -⟩
          intro Q' hQ'
          clear f55
          clear f56
          clear f57
          clear f58
          clear f59
          clear f60
          clear f61
          clear f62
          clear f63
          clear f64
          clear f65
          clear f66
          clear f67
          clear f68
          clear f69
          replace f54 : ρ 54 = .tuple #[.agg #[.int .i64 x0, .int .i64 x1, .int .i64 x2, .int .i64 x3, .bool x4, strV x5, .int .i64 x6, .int .i64 x7], .int .i64 0] := f54
          replace f70 : ρ 70 = .agg #[.int .i64 x0, .int .i64 x1, .int .i64 x2, .int .i64 x3, .bool x4, strV x5, .int .i64 x6, .int .i64 x7] := f70
          replace f71 : ρ 71 = .int .i64 0 := f71
          replace f13 : (isNewC WB [.int .i64 0, .int .i64 0, .int .i64 0, .int .i64 0, .bool false, .string ⟨#[]⟩, .int .i64 0, .int .i64 0]).rel (ρ 13) w' := f13
          clear f14
          simp only [puts, Act.put, List.setIfInBounds_toArray, List.set_cons_zero, List.set_cons_succ]
          obtain ⟨nk, ek, hnk, bk⟩ := f13
          rw [ek, f70]
          clear ek
          have h3l := H3.out.lt
          have h9l := H9.out.lt
          have hn3k : n3 ≠ nk := by omega
          have hn9k : n9 ≠ nk := by omega
          have hxb := HX.out.size
          have hkw : w.heap.size ≤ nk := by omega
          have kz0 := bk.thaw 0
          have kz1 := bk.thaw 1
          have kz2 := bk.thaw 2
          have kz3 := bk.thaw 3
          have kz4 := bk.thaw 4
          have kz5 := bk.thaw 5
          have kz6 := bk.thaw 6
          have kz7 := bk.thaw 7
          have ky0 := bk.cell (i := 0) rfl
          have ky1 := bk.cell (i := 1) rfl
          have ky2 := bk.cell (i := 2) rfl
          have ky3 := bk.cell (i := 3) rfl
          have ky4 := bk.cell (i := 4) rfl
          have ky5 := bk.cell (i := 5) rfl
          have ky6 := bk.cell (i := 6) rfl
          have ky7 := bk.cell (i := 7) rfl
          have hk2 := set8_blk bk (.int .i64 x0) (.int .i64 x1) (.int .i64 x2) (.int .i64 x3) (.bool x4) (strV x5) (.int .i64 x6) (.int .i64 x7)
          have hx2 := set8_ext (Ext.refl WB |>.trans hext) hnk (.int .i64 x0) (.int .i64 x1) (.int .i64 x2) (.int .i64 x3) (.bool x4) (strV x5) (.int .i64 x6) (.int .i64 x7)
          unfold set8 at hk2 hx2
          have HKS := Lib.hid hk2
          have HXS := Lib.hid hx2
          clear hk2 hx2 bk hext
          unfold strV at HKS HXS
          unfold strV
          go_wp2_with fail
          clear kz0 kz1 kz2 kz3 kz4 kz5 kz6 kz7 ky0 ky1 ky2 ky3 ky4 ky5 ky6 ky7
          have HJ2 := Lib.hid (HJ.out.more HXS.out)
          have H32 := Lib.hid (H3.out.ext HXS.out)
          have H92 := Lib.hid (H9.out.ext HXS.out)
          have HXX := Lib.hid (HX.out.trans HXS.out)
          have HLV2 := Lib.hid ((HXS.out.cell (p := ⟨bo, (q - 1) * 2 + 1, none⟩) hbo).trans HLV.out)
          have hbo2 := Nat.lt_of_lt_of_le hbo HXS.out.size
          have hk3 := HKS.out
          have HXS2 := HXS
          clear HJ H3 H9 HX HLV HXS HKS
          generalize (((((((w'.setCell ⟨nk, 0, none⟩ (.int .i64 x0)).setCell ⟨nk, 1, none⟩ (.int .i64 x1)).setCell ⟨nk, 2, none⟩ (.int .i64 x2)).setCell ⟨nk, 3, none⟩ (.int .i64 x3)).setCell ⟨nk, 4, none⟩ (.bool x4)).setCell ⟨nk, 5, none⟩ (.string ⟨x5.toArray⟩)).setCell ⟨nk, 6, none⟩ (.int .i64 x6)).setCell ⟨nk, 7, none⟩ (.int .i64 x7) = WC at *
          have HK : Hid (Blk WC nk [.int .i64 x0, .int .i64 x1, .int .i64 x2, .int .i64 x3, .bool x4, strV x5, .int .i64 x6, .int .i64 x7]) := Lib.hid hk3
          have HJ := HJ2
          have H3 := H32
          have H9 := H92
          have HX := HXX
          have HLV := HLV2
          have hbo := hbo2
          clear hk3 HJ2 H32 H92 HXX HLV2 hbo2
          refine wp_region_last_lit (by kernel_rfl) rfl (by kernel_rfl) (by kernel_rfl) ?_
          refine tele_move rfl (.inl rfl) rfl (isV (.slice (some ⟨bo, 0, none⟩) q cO)) (fun ρ w' h => h) ?_
          refine tele_move rfl (.inl rfl) rfl (isV (.slice (some ⟨bo, 0, none⟩) q cO)) (fun ρ w' h => h) ?_
          refine tele_val rfl (.int .i64 ((q : Nat) : Int)) (fun _ _ _ => rfl) ?_ ?_
          · rintro ρ w' he ⟨h73, -⟩
            have e73 : ρ 73 = .slice (some ⟨bo, 0, none⟩) q cO := h73
            simp [execOp, evR, e73, go_sem]
          refine tele_val rfl (.int .i64 ((q - 1 : Nat) : Int)) (fun _ _ _ => rfl) ?_ ?_
          · rintro ρ w' he ⟨h74, -⟩
            have e74 : ρ 74 = .int .i64 ((q : Nat) : Int) := h74
            have hw1 : IntKind.i64.wrap ((q : Int) - 1) = ((q - 1 : Nat) : Int) := by rw [IntWalk.i64_in _ (by omega)]; omega
            simp [execOp, evR, e74, hw1, go_sem]
          refine tele_val rfl (.pointer (some ⟨bo, 0 + (q - 1) * 2, none⟩)) (fun _ _ _ => rfl) ?_ ?_
          · rintro ρ w' he ⟨h72, h75, -⟩
            have e72 : ρ 72 = .slice (some ⟨bo, 0, none⟩) q cO := h72
            have e75 : ρ 75 = .int .i64 ((q - 1 : Nat) : Int) := h75
            exact index_at 2 rfl Try.underlying34 e72 e75 (by omega) (by kernel_rfl)
          refine tele_val rfl (.pointer (some ⟨bo, 0 + (q - 1) * 2 + 1, none⟩)) (fun _ _ _ => rfl) ?_ ?_
          · rintro ρ w' he ⟨h76, -⟩
            have e76 : ρ 76 = .pointer (some ⟨bo, 0 + (q - 1) * 2, none⟩) := h76
            simp [execOp, evR, e76, go_sem]
          refine tele_val rfl (.slice (some ⟨B, 0, none⟩) cs0.length cap) (fun _ _ _ => rfl) ?_ ?_
          · rintro ρ w' he ⟨h77, -⟩
            have e77 : ρ 77 = .pointer (some ⟨bo, 0 + (q - 1) * 2 + 1, none⟩) := h77
            have c0 := (he.cell (p := ⟨bo, (q - 1) * 2 + 1, none⟩) hbo).trans HLV.out
            simp [execOp, evR, e77, c0, go_sem]
          refine tele_val rfl (.pointer (some ⟨n9, 1, none⟩)) (fun _ _ _ => rfl) ?_ ?_
          · rintro ρ w' he ⟨h9, -⟩
            have e9 : ρ 9 = .pointer (some ⟨n9, 0, none⟩) := h9
            simp [execOp, evR, e9, go_sem]
          refine tele_val rfl (.int .i64 (gn : Int)) (fun _ _ _ => rfl) ?_ ?_
          · rintro ρ w' he ⟨h79, -⟩
            have e79 : ρ 79 = .pointer (some ⟨n9, 1, none⟩) := h79
            have c0 := (H9.out.ext he).cell (i := 1) rfl
            simp [execOp, evR, e79, c0, go_sem]
          refine tele_val rfl (.agg #[.int .i64 x0, .int .i64 x1, .int .i64 x2, .int .i64 x3, .bool x4, strV x5, .int .i64 x6, .int .i64 x7]) (fun _ _ _ => rfl) ?_ ?_
          · rintro ρ w' he ⟨h13, -⟩
            have e13 : ρ 13 = .pointer (some ⟨nk, 0, none⟩) := h13
            have c0 := (HK.out.ext he).cell (i := 0) rfl
            have c1 := (HK.out.ext he).cell (i := 1) rfl
            have c2 := (HK.out.ext he).cell (i := 2) rfl
            have c3 := (HK.out.ext he).cell (i := 3) rfl
            have c4 := (HK.out.ext he).cell (i := 4) rfl
            have c5 := (HK.out.ext he).cell (i := 5) rfl
            have c6 := (HK.out.ext he).cell (i := 6) rfl
            have c7 := (HK.out.ext he).cell (i := 7) rfl
            simp [execOp, evR, e13, c0, c1, c2, c3, c4, c5, c6, c7, go_sem]
          refine tele_val rfl (.pointer (some ⟨B, 0 + gn * 8, none⟩)) (fun _ _ _ => rfl) ?_ ?_
          · rintro ρ w' he ⟨h78, h80, -⟩
            have e78 : ρ 78 = .slice (some ⟨B, 0, none⟩) cs0.length cap := h78
            have e80 : ρ 80 = .int .i64 (gn : Int) := h80
            exact index_at 8 rfl Try.underlying45 e78 e80 (by omega) (by kernel_rfl)
          refine tele_nil ?_
          rintro ρ w' hext ⟨f82, f81, f80, f79, f78, f77, f76, f75, f74, f73, f72, -⟩
          clear f72
          clear f73
          clear f74
          clear f75
          clear f76
          clear f77
          clear f78
          clear f79
          clear f80
          replace f81 : ρ 81 = .agg #[.int .i64 x0, .int .i64 x1, .int .i64 x2, .int .i64 x3, .bool x4, strV x5, .int .i64 x6, .int .i64 x7] := f81
          replace f82 : ρ 82 = .pointer (some ⟨B, 0 + gn * 8, none⟩) := f82
          simp only [puts, Act.put, List.setIfInBounds_toArray, List.set_cons_zero, List.set_cons_succ]
          rw [Nat.zero_add] at f82
          rw [f82, f81]
          have HJ3 := Lib.hid (HJ.out.more hext)
          have H33 := Lib.hid (H3.out.ext hext)
          clear HJ H9 HK HLV HX
          have hl := (HJ3.out.own (lk, cs0, .slice (some ⟨B, 0, none⟩) cs0.length cap) (by simp)).1
          unfold ClsO at hl
          obtain ⟨⟨o0, o1, o2, o3, o4, o5, o6, o7⟩, hco⟩ : ∃ x, cs0[gn]? = some x := ⟨_, List.getElem?_eq_getElem hcs0⟩
          have hcg := clsC_get cs0 gn _ hco
          have y0 := (World.ownsRow.cellAt hl (gn * 8 + 0) (by omega)).trans (hcg 0 (by omega))
          have y1 := (World.ownsRow.cellAt hl (gn * 8 + 1) (by omega)).trans (hcg 1 (by omega))
          have y2 := (World.ownsRow.cellAt hl (gn * 8 + 2) (by omega)).trans (hcg 2 (by omega))
          have y3 := (World.ownsRow.cellAt hl (gn * 8 + 3) (by omega)).trans (hcg 3 (by omega))
          have y4 := (World.ownsRow.cellAt hl (gn * 8 + 4) (by omega)).trans (hcg 4 (by omega))
          have y5 := (World.ownsRow.cellAt hl (gn * 8 + 5) (by omega)).trans (hcg 5 (by omega))
          have y6 := (World.ownsRow.cellAt hl (gn * 8 + 6) (by omega)).trans (hcg 6 (by omega))
          have y7 := (World.ownsRow.cellAt hl (gn * 8 + 7) (by omega)).trans (hcg 7 (by omega))
          simp only [clC, List.getElem?_cons_zero, List.getElem?_cons_succ, Nat.add_zero] at y0 y1 y2 y3 y4 y5 y6 y7
          have f0 := World.ownsRow.frozenAt hl (gn * 8)
          have f1 := World.ownsRow.frozenAt hl (gn * 8 + 1)
          have f2 := World.ownsRow.frozenAt hl (gn * 8 + 2)
          have f3' := World.ownsRow.frozenAt hl (gn * 8 + 3)
          have f4 := World.ownsRow.frozenAt hl (gn * 8 + 4)
          have f5 := World.ownsRow.frozenAt hl (gn * 8 + 5)
          have f6 := World.ownsRow.frozenAt hl (gn * 8 + 6)
          have f7 := World.ownsRow.frozenAt hl (gn * 8 + 7)
          have hB := row_typed hl B rfl
          have hput := HJ3.out.put (x := ⟨x0, x1, x2, x3, x4, x5, x6, x7⟩) hcs0
          have hBz := hB.1
          have h3f := H33.out.kept (set8o_gb w' B (gn * 8) ⟨x0, x1, x2, x3, x4, x5, x6, x7⟩) (fun e => by injection e with e; have := H3L.out; omega)
          unfold set8o at hput h3f
          dsimp only at hput h3f
          have HPT := Lib.hid hput
          have H3F := Lib.hid h3f
          clear hput h3f hl hcg hco H33 HJ3 hB hBz hext
          unfold strV at *
          go_wp2_with fail
          clear y0 y1 y2 y3 y4 y5 y6 y7 f0 f1 f2 f3' f4 f5 f6 f7
          go_roundw
          case rel => exact ⟨k + 1, pre0 ++ [(lk, cs0.set gn ⟨x0, x1, x2, x3, x4, x5, x6, x7⟩, .slice (some ⟨B, 0, none⟩) cs0.length cap)], by go_num, HPT, H3F, Lib.hid (by
            have h := HMP.out
            rw [rowsF_step HGET.out]
            unfold rowsStep
            dsimp only
            rw [← HMK.out, ← h, List.map_append]
            simp only [List.map_append, List.map_cons, List.map_nil, erR]
            rw [rowsPut_snoc, HCW.out, Int.toNat_natCast]), by omega, by have := HQ.out; simp only [List.length_append, List.length_singleton] at this ⊢; omega, Lib.hid (by
            intro y hy
            rcases List.mem_append.1 hy with hy | hy
            · exact HOL2.out y hy
            · rw [List.mem_singleton.1 hy]
              rw [List.length_set]
              exact HLN.out)⟩
          case measure => simp [intOf]; omega
        · have hlk0 : (!(lk == ky)) = true := by simpa using hlk
          rw [hlk0]
          clear hlk0
          have HJ1 := Lib.hid (HJ0.out.more hext)
          have H31 := Lib.hid (H30.out.ext hext)
          have H91 := Lib.hid (H90.out.ext hext)
          generalize w' = W6 at *
          have k0 := H91.out.cell (i := 0) rfl
          clear HJ0 H30 H90 hext
          unfold strV at *
          go_wp2_with fail
          refine (rowNew_any _ gs ky W6 (HG.out.ext HJ1.out.ext) HP.out (pgood_pol HP.out) HKY.out.1 HKY.out.2).mono ?_
          rintro e W7 ⟨vc, rfl, hcl, xw7⟩
          clear k0
          unfold strV
          obtain ⟨B, cap, hvc, hB1, hB2⟩ := own_some hcl (by rw [List.length_replicate]; exact HN4.out.1)
          rw [List.length_replicate] at hvc
          subst hvc
          have HJ7 := Lib.hid (HJ1.out.more xw7)
          have hw6 := HJ1.out.ext.size
          have HJ8 := Lib.hid (HJ7.out.more (ext_alloc W7 (.cells #[.string ⟨ky.toArray⟩, .slice (some ⟨B, 0, none⟩) gs.length cap] 47)))
          have hcl8 := hcl.ext (ext_alloc W7 (.cells #[.string ⟨ky.toArray⟩, .slice (some ⟨B, 0, none⟩) gs.length cap] 47))
          have bt := Blk.new W7 #[.string ⟨ky.toArray⟩, .slice (some ⟨B, 0, none⟩) gs.length cap] 47
          have H38 := (H31.out.ext xw7).ext (ext_alloc W7 (.cells #[.string ⟨ky.toArray⟩, .slice (some ⟨B, 0, none⟩) gs.length cap] 47))
          have H98 := (H91.out.ext xw7).ext (ext_alloc W7 (.cells #[.string ⟨ky.toArray⟩, .slice (some ⟨B, 0, none⟩) gs.length cap] 47))
          go_upto_region 11 with (fail)
          generalize W7.heap.size = n11 at *
          generalize W7.alloc (.cells #[.string ⟨ky.toArray⟩, .slice (some ⟨B, 0, none⟩) gs.length cap] 47) = W8 at *
          have t0 := bt.cell (i := 0) rfl
          have t1 := bt.cell (i := 1) rfl
          have hown := (HJ8.out.more (ext_alloc W8 (.cells #[.string ⟨ky.toArray⟩, .slice (some ⟨B, 0, none⟩) gs.length cap] 47))).row
          rw [HQ0.out] at hown
          have bl := Blk.new W8 #[.string ⟨ky.toArray⟩, .slice (some ⟨B, 0, none⟩) gs.length cap] 47
          have hF : Fl (W8.alloc (.cells #[.string ⟨ky.toArray⟩, .slice (some ⟨B, 0, none⟩) gs.length cap] 47)) (.slice (some ⟨W8.heap.size, 0, none⟩) 1 1) 1 [strV ky, .slice (some ⟨B, 0, none⟩) gs.length cap] := ⟨_, 1, rfl, Nat.le_refl _, by decide, by simp, fun _ => ⟨_, 0, rfl, bl.lt, fun j u hu => by rw [Nat.zero_add]; exact bl.cell (i := j) hu⟩⟩
          have h1c : ∀ u ∈ ([strV ky, .slice (some ⟨B, 0, none⟩) gs.length cap] : List Value), u.oneCell' = true := by intro u hu; simp only [List.mem_cons, List.not_mem_nil, or_false] at hu; rcases hu with rfl | rfl <;> rfl
          have hsz := (HJ8.out.ext.trans (ext_alloc W8 (.cells #[.string ⟨ky.toArray⟩, .slice (some ⟨B, 0, none⟩) gs.length cap] 47))).size
          clear bl
          unfold strV at *
          go_upto_region 12 with (at_builtin; refine wpList_append_fl rfl (.tmp 50) (.tmp 52) 34 rfl w.heap.size 47 i0 _ 2 40 Try.underlying34 HI0.out HZ0.out HZ1.out HZ2.out rfl (by decide) hown hF rfl rfl rfl h1c (by unfold maxLen; omega) (by omega) hsz ?_; intro v' w3 hown' hg hat; clear t0 t1)
          have hjn := RsJ.add (key := ky) HJ1.out HJ8.out hcl8 (by rw [List.length_replicate]; exact HN4.out.1) (by rw [HQ0.out]; exact hown') hg
          have hgr := World.ownsRow.lt HJ1.out.row
          have H3 : Hid (Blk w3 n3 #[.int .i64 s1, .int .i64 s2, .int .i64 s3, .int .i64 s4, .int .i64 s5, .int .i64 s6, .slice (some ⟨b, off, none⟩) ws.length cw].toList) := Lib.hid ((H38.ext (ext_alloc _ _)).kept hg (fun e => by have := (hgr _ e).1; have := H3L.out; omega))
          have H9 : Hid (Blk w3 n9 [strV ky, .int .i64 (gn : Int), .bool d, strV z]) := Lib.hid ((H98.ext (ext_alloc _ _)).kept hg (fun e => HN9.out e))
          have HX := Lib.hid hjn.ext
          clear hown hF h1c hsz hg hat hown' HJ8 hcl8 H38 H98 hgr
          generalize hcsr : List.replicate gs.length Cl.nought = cs at *
          have hcsr2 : bareR gs ky = (ky, cs) := by unfold bareR; rw [hcsr]
          have hlen : cs.length = gs.length := by rw [← hcsr, List.length_replicate]
          rw [← hlen] at hjn
          have HJ := Lib.hid hjn
          have HLN := Lib.hid hlen.symm
          clear hjn hlen
          have HGC : Hid (gn < cs.length) := Lib.hid (by rw [← hcsr, List.length_replicate]; exact HGN.out)
          obtain ⟨pre, hpre⟩ : ∃ p : List RwM, p = pre0 ++ [(lk, cs0, vlast)] := ⟨_, rfl⟩
          rw [← hpre] at HJ HQ0
          have HQ : Hid ((pre ++ [(ky, cs, Value.slice (some ⟨B, 0, none⟩) cs.length cap)]).length = q + 1) := Lib.hid (by have := HQ0.out; simp only [List.length_append, List.length_singleton] at this ⊢; omega)
          have HQ9 : Hid (pre.length ≤ 8) := Lib.hid (by have := HQ0.out; omega)
          have HMP : Hid ((pre ++ [(ky, cs, Value.slice (some ⟨B, 0, none⟩) cs.length cap)]).map erR = rowsAdd gs ((pre0 ++ [(lk, cs0, vlast)]).map erR) ky) := Lib.hid (by
            rw [← hpre]
            unfold rowsAdd
            rw [if_neg (by rw [hpre]; simp [erR]; exact hlk), List.map_append, hcsr2]
            rfl)
          have HOL2 : Hid (∀ x ∈ pre, gs.length = x.2.1.length) := Lib.hid (by subst hpre; exact HOL.out)
          clear hpre
          clear hcsr hcsr2
          generalize w3 = WB at *
          generalize v' = vo at *
          generalize hq1 : q + 1 = q' at *
          have hqk2 : q' ≤ k + 1 := by omega
          clear hq1
          -- the cell of the write, and its place
          have hcs0 : gn < cs.length := HGC.out
          obtain ⟨bo, cO, hvo⟩ : ∃ bo cO, vo = .slice (some ⟨bo, 0, none⟩) q' cO := by
            rcases HJ.out.row.2 with ⟨_, hn⟩ | ⟨g, cap', cur, hv, _⟩
            · simp at hn
            · exact ⟨g, cap', by rw [hv, HQ.out]⟩
          subst hvo
          have hq0 : 0 < q' ∧ q' ≤ 9 := by have := HQ.out; have := HQ9.out; simp at *; omega
          obtain ⟨hq0, hq9⟩ := hq0
          have hrow := HJ.out.row
          rw [HQ.out] at hrow
          have hql : (pre ++ [(ky, cs, Value.slice (some ⟨B, 0, none⟩) cs.length cap)])[q' - 1]? = some (ky, cs, .slice (some ⟨B, 0, none⟩) cs.length cap) := by
            have := HQ.out
            simp only [List.length_append, List.length_singleton] at this
            rw [List.getElem?_append_right (by omega), show q' - 1 - pre.length = 0 by omega]
            rfl
          obtain ⟨hr0, hr1⟩ := rwC_get _ _ _ hql
          have hrl := rwC_len (pre ++ [(ky, cs, Value.slice (some ⟨B, 0, none⟩) cs.length cap)])
          rw [HQ.out] at hrl
          have HLV : Hid (WB.cell? ⟨bo, (q' - 1) * 2 + 1, none⟩ = some (.slice (some ⟨B, 0, none⟩) cs.length cap)) := Lib.hid (by rw [World.ownsRow.cellAt hrow _ (by omega)]; exact hr1)
          have hbo : bo < WB.heap.size := (World.ownsRow.lt hrow bo rfl).2
          have hocap : q' ≤ cO := by
            rcases hrow.2 with ⟨hv, _⟩ | ⟨g, cap', cur, hv, _, _, hc, _⟩
            · cases hv
            · injection hv with _ _ hv; omega
          have hocl : cs.length ≤ cap := by
            have hl := (HJ.out.own (ky, cs, .slice (some ⟨B, 0, none⟩) cs.length cap) (by simp)).1
            rcases hl.2 with ⟨hv, _⟩ | ⟨g, cap', cur, hv, _, _, hc, _⟩
            · cases hv
            · injection hv with _ _ hv; omega
          clear hrow hql hr0 hr1 hrl
          go_upto_region 12 with (fail)
          refine wp_region_late_lit 19 (by kernel_rfl) rfl (by kernel_rfl) (by kernel_rfl) (by kernel_rfl) (by kernel_rfl) ?_
          refine tele_move rfl (.inl rfl) rfl (isV (.slice (some ⟨bg, og, none⟩) gs.length cg)) (fun ρ w' h => h) ?_
          refine tele_val rfl (.pointer (some ⟨n9, 1, none⟩)) (fun _ _ _ => rfl) ?_ ?_
          · rintro ρ w' he ⟨h9, -⟩
            have e9 : ρ 9 = .pointer (some ⟨n9, 0, none⟩) := h9
            simp [execOp, evR, e9, go_sem]
          refine tele_val rfl (.int .i64 (gn : Int)) (fun _ _ _ => rfl) ?_ ?_
          · rintro ρ w' he ⟨h56, -⟩
            have e56 : ρ 56 = .pointer (some ⟨n9, 1, none⟩) := h56
            have c0 := (H9.out.ext he).cell (i := 1) rfl
            simp [execOp, evR, e56, c0, go_sem]
          refine tele_val rfl (.pointer (some ⟨bg, og + gn * 2, none⟩)) (fun _ _ _ => rfl) ?_ ?_
          · rintro ρ w' he ⟨h55, h57, -⟩
            have e55 : ρ 55 = .slice (some ⟨bg, og, none⟩) gs.length cg := h55
            have e57 : ρ 57 = .int .i64 (gn : Int) := h57
            exact index_at 2 rfl Try.underlying22 e55 e57 (by omega) (by kernel_rfl)
          refine tele_val rfl (.pointer (some ⟨bg, og + gn * 2 + 1, none⟩)) (fun _ _ _ => rfl) ?_ ?_
          · rintro ρ w' he ⟨h58, -⟩
            have e58 : ρ 58 = .pointer (some ⟨bg, og + gn * 2, none⟩) := h58
            simp [execOp, evR, e58, go_sem]
          refine tele_val rfl (.int .i64 pp) (fun _ _ _ => rfl) ?_ ?_
          · rintro ρ w' he ⟨h59, -⟩
            have e59 : ρ 59 = .pointer (some ⟨bg, og + gn * 2 + 1, none⟩) := h59
            have c0 := ((HX.out.trans he).cell (p := ⟨bg, og + gn * 2 + 1, none⟩) hbg).trans HPP.out
            simp [execOp, evR, e59, c0, go_sem]
          refine tele_val rfl (.pointer (some ⟨n3, 2, none⟩)) (fun _ _ _ => rfl) ?_ ?_
          · rintro ρ w' he ⟨h3, -⟩
            have e3 : ρ 3 = .pointer (some ⟨n3, 0, none⟩) := h3
            simp [execOp, evR, e3, go_sem]
          refine tele_val rfl (.agg #[.int .i64 s3, .int .i64 s4]) (fun _ _ _ => rfl) ?_ ?_
          · rintro ρ w' he ⟨h61, -⟩
            have e61 : ρ 61 = .pointer (some ⟨n3, 2, none⟩) := h61
            have c0 := (H3.out.ext he).cell (i := 2) rfl
            have c1 := (H3.out.ext he).cell (i := 3) rfl
            simp [execOp, evR, e61, c0, c1, go_sem]
          refine tele_val rfl (.pointer (some ⟨n3, 4, none⟩)) (fun _ _ _ => rfl) ?_ ?_
          · rintro ρ w' he ⟨h3, -⟩
            have e3 : ρ 3 = .pointer (some ⟨n3, 0, none⟩) := h3
            simp [execOp, evR, e3, go_sem]
          refine tele_val rfl (.agg #[.int .i64 s5, .int .i64 s6]) (fun _ _ _ => rfl) ?_ ?_
          · rintro ρ w' he ⟨h63, -⟩
            have e63 : ρ 63 = .pointer (some ⟨n3, 4, none⟩) := h63
            have c0 := (H3.out.ext he).cell (i := 4) rfl
            have c1 := (H3.out.ext he).cell (i := 5) rfl
            simp [execOp, evR, e63, c0, c1, go_sem]
          refine tele_val rfl (.pointer (some ⟨n9, 2, none⟩)) (fun _ _ _ => rfl) ?_ ?_
          · rintro ρ w' he ⟨h9, -⟩
            have e9 : ρ 9 = .pointer (some ⟨n9, 0, none⟩) := h9
            simp [execOp, evR, e9, go_sem]
          refine tele_val rfl (.bool d) (fun _ _ _ => rfl) ?_ ?_
          · rintro ρ w' he ⟨h65, -⟩
            have e65 : ρ 65 = .pointer (some ⟨n9, 2, none⟩) := h65
            have c0 := (H9.out.ext he).cell (i := 2) rfl
            simp [execOp, evR, e65, c0, go_sem]
          refine tele_val rfl (.pointer (some ⟨n9, 3, none⟩)) (fun _ _ _ => rfl) ?_ ?_
          · rintro ρ w' he ⟨h9, -⟩
            have e9 : ρ 9 = .pointer (some ⟨n9, 0, none⟩) := h9
            simp [execOp, evR, e9, go_sem]
          refine tele_val rfl (strV z) (fun _ _ _ => rfl) ?_ ?_
          · rintro ρ w' he ⟨h67, -⟩
            have e67 : ρ 67 = .pointer (some ⟨n9, 3, none⟩) := h67
            have c0 := (H9.out.ext he).cell (i := 3) rfl
            simp [execOp, evR, e67, c0, go_sem]
          refine tele_call rfl rfl Try.func30 (by kernel_rfl) (isV (.tuple #[.agg #[.int .i64 x0, .int .i64 x1, .int .i64 x2, .int .i64 x3, .bool x4, strV x5, .int .i64 x6, .int .i64 x7], .int .i64 0])) (fun _ _ _ => rfl) ?_ ?_
          · rintro ρ w' he ⟨h60, h62, h64, h66, h68, -⟩
            have e60 : ρ 60 = .int .i64 pp := h60
            have e62 : ρ 62 = .agg #[.int .i64 s3, .int .i64 s4] := h62
            have e64 : ρ 64 = .agg #[.int .i64 s5, .int .i64 s6] := h64
            have e66 : ρ 66 = .bool d := h66
            have e68 : ρ 68 = strV z := h68
            simp only [evR, List.map_toArray, List.map_cons, List.map_nil, e60, e62, e64, e66, e68]
            have hof := cellOf_any pp s3 s4 s5 s6 d z w' HPO.out.1 HPO.out.2.1 HPO.out.2.2.1 HPO.out.2.2.2.1 HPO.out.2.2.2.2.2 HPO.out.2.2.2.2.1
            rw [HCL.out] at hof
            unfold clV stV vecV at hof
            dsimp only at hof
            refine hof.mono ?_
            rintro e w'' ⟨rfl, h'⟩
            exact ⟨_, rfl, h', rfl⟩
          refine tele_move rfl (.inl rfl) rfl (isV (.tuple #[.agg #[.int .i64 x0, .int .i64 x1, .int .i64 x2, .int .i64 x3, .bool x4, strV x5, .int .i64 x6, .int .i64 x7], .int .i64 0])) (fun ρ w' h => h) ?_
          refine tele_val rfl (.agg #[.int .i64 x0, .int .i64 x1, .int .i64 x2, .int .i64 x3, .bool x4, strV x5, .int .i64 x6, .int .i64 x7]) (fun _ _ _ => rfl) ?_ ?_
          · rintro ρ w' he ⟨h54, -⟩
            have e54 : ρ 54 = .tuple #[.agg #[.int .i64 x0, .int .i64 x1, .int .i64 x2, .int .i64 x3, .bool x4, strV x5, .int .i64 x6, .int .i64 x7], .int .i64 0] := h54
            simp [execOp, evR, e54, go_sem]
          refine tele_val rfl (.int .i64 0) (fun _ _ _ => rfl) ?_ ?_
          · rintro ρ w' he ⟨h54, -⟩
            have e54 : ρ 54 = .tuple #[.agg #[.int .i64 x0, .int .i64 x1, .int .i64 x2, .int .i64 x3, .bool x4, strV x5, .int .i64 x6, .int .i64 x7], .int .i64 0] := h54
            simp [execOp, evR, e54, go_sem]
          refine tele_any rfl (isNewC WB [.int .i64 0, .int .i64 0, .int .i64 0, .int .i64 0, .bool false, .string ⟨#[]⟩, .int .i64 0, .int .i64 0]) ?_ ?_
          · rintro ρ w' he hk
            rw [if_pos (show wantedR _ _ _ = true from rfl)]
            obtain - := hk
            simp only [execOp]
            simp [go_sem]
            exact ⟨ext_alloc _ _, _, rfl, he.size, Blk.new _ _ _⟩
          refine tele_move rfl (.inr rfl) rfl (isV (.int .i64 0)) (fun ρ w' h => h) ?_
          refine tele_nil ?_
          rintro ρ w' hext ⟨f14, f13, f71, f70, f54, f69, f68, f67, f66, f65, f64, f63, f62, f61, f60, f59, f58, f57, f56, f55, -⟩
          intro Q' hQ'
          clear f55
          clear f56
          clear f57
          clear f58
          clear f59
          clear f60
          clear f61
          clear f62
          clear f63
          clear f64
          clear f65
          clear f66
          clear f67
          clear f68
          clear f69
          replace f54 : ρ 54 = .tuple #[.agg #[.int .i64 x0, .int .i64 x1, .int .i64 x2, .int .i64 x3, .bool x4, strV x5, .int .i64 x6, .int .i64 x7], .int .i64 0] := f54
          replace f70 : ρ 70 = .agg #[.int .i64 x0, .int .i64 x1, .int .i64 x2, .int .i64 x3, .bool x4, strV x5, .int .i64 x6, .int .i64 x7] := f70
          replace f71 : ρ 71 = .int .i64 0 := f71
          replace f13 : (isNewC WB [.int .i64 0, .int .i64 0, .int .i64 0, .int .i64 0, .bool false, .string ⟨#[]⟩, .int .i64 0, .int .i64 0]).rel (ρ 13) w' := f13
          clear f14
          simp only [puts, Act.put, List.setIfInBounds_toArray, List.set_cons_zero, List.set_cons_succ]
          obtain ⟨nk, ek, hnk, bk⟩ := f13
          rw [ek, f70]
          clear ek
          have h3l := H3.out.lt
          have h9l := H9.out.lt
          have hn3k : n3 ≠ nk := by omega
          have hn9k : n9 ≠ nk := by omega
          have hxb := HX.out.size
          have hkw : w.heap.size ≤ nk := by omega
          have kz0 := bk.thaw 0
          have kz1 := bk.thaw 1
          have kz2 := bk.thaw 2
          have kz3 := bk.thaw 3
          have kz4 := bk.thaw 4
          have kz5 := bk.thaw 5
          have kz6 := bk.thaw 6
          have kz7 := bk.thaw 7
          have ky0 := bk.cell (i := 0) rfl
          have ky1 := bk.cell (i := 1) rfl
          have ky2 := bk.cell (i := 2) rfl
          have ky3 := bk.cell (i := 3) rfl
          have ky4 := bk.cell (i := 4) rfl
          have ky5 := bk.cell (i := 5) rfl
          have ky6 := bk.cell (i := 6) rfl
          have ky7 := bk.cell (i := 7) rfl
          have hk2 := set8_blk bk (.int .i64 x0) (.int .i64 x1) (.int .i64 x2) (.int .i64 x3) (.bool x4) (strV x5) (.int .i64 x6) (.int .i64 x7)
          have hx2 := set8_ext (Ext.refl WB |>.trans hext) hnk (.int .i64 x0) (.int .i64 x1) (.int .i64 x2) (.int .i64 x3) (.bool x4) (strV x5) (.int .i64 x6) (.int .i64 x7)
          unfold set8 at hk2 hx2
          have HKS := Lib.hid hk2
          have HXS := Lib.hid hx2
          clear hk2 hx2 bk hext
          unfold strV at HKS HXS
          unfold strV
          go_wp2_with fail
          clear kz0 kz1 kz2 kz3 kz4 kz5 kz6 kz7 ky0 ky1 ky2 ky3 ky4 ky5 ky6 ky7
          have HJ2 := Lib.hid (HJ.out.more HXS.out)
          have H32 := Lib.hid (H3.out.ext HXS.out)
          have H92 := Lib.hid (H9.out.ext HXS.out)
          have HXX := Lib.hid (HX.out.trans HXS.out)
          have HLV2 := Lib.hid ((HXS.out.cell (p := ⟨bo, (q' - 1) * 2 + 1, none⟩) hbo).trans HLV.out)
          have hbo2 := Nat.lt_of_lt_of_le hbo HXS.out.size
          have hk3 := HKS.out
          have HXS2 := HXS
          clear HJ H3 H9 HX HLV HXS HKS
          generalize (((((((w'.setCell ⟨nk, 0, none⟩ (.int .i64 x0)).setCell ⟨nk, 1, none⟩ (.int .i64 x1)).setCell ⟨nk, 2, none⟩ (.int .i64 x2)).setCell ⟨nk, 3, none⟩ (.int .i64 x3)).setCell ⟨nk, 4, none⟩ (.bool x4)).setCell ⟨nk, 5, none⟩ (.string ⟨x5.toArray⟩)).setCell ⟨nk, 6, none⟩ (.int .i64 x6)).setCell ⟨nk, 7, none⟩ (.int .i64 x7) = WC at *
          have HK : Hid (Blk WC nk [.int .i64 x0, .int .i64 x1, .int .i64 x2, .int .i64 x3, .bool x4, strV x5, .int .i64 x6, .int .i64 x7]) := Lib.hid hk3
          have HJ := HJ2
          have H3 := H32
          have H9 := H92
          have HX := HXX
          have HLV := HLV2
          have hbo := hbo2
          clear hk3 HJ2 H32 H92 HXX HLV2 hbo2
          refine wp_region_last_lit (by kernel_rfl) rfl (by kernel_rfl) (by kernel_rfl) ?_
          refine tele_move rfl (.inl rfl) rfl (isV (.slice (some ⟨bo, 0, none⟩) q' cO)) (fun ρ w' h => h) ?_
          refine tele_move rfl (.inl rfl) rfl (isV (.slice (some ⟨bo, 0, none⟩) q' cO)) (fun ρ w' h => h) ?_
          refine tele_val rfl (.int .i64 ((q' : Nat) : Int)) (fun _ _ _ => rfl) ?_ ?_
          · rintro ρ w' he ⟨h73, -⟩
            have e73 : ρ 73 = .slice (some ⟨bo, 0, none⟩) q' cO := h73
            simp [execOp, evR, e73, go_sem]
          refine tele_val rfl (.int .i64 ((q' - 1 : Nat) : Int)) (fun _ _ _ => rfl) ?_ ?_
          · rintro ρ w' he ⟨h74, -⟩
            have e74 : ρ 74 = .int .i64 ((q' : Nat) : Int) := h74
            have hw1 : IntKind.i64.wrap ((q' : Int) - 1) = ((q' - 1 : Nat) : Int) := by rw [IntWalk.i64_in _ (by omega)]; omega
            simp [execOp, evR, e74, hw1, go_sem]
          refine tele_val rfl (.pointer (some ⟨bo, 0 + (q' - 1) * 2, none⟩)) (fun _ _ _ => rfl) ?_ ?_
          · rintro ρ w' he ⟨h72, h75, -⟩
            have e72 : ρ 72 = .slice (some ⟨bo, 0, none⟩) q' cO := h72
            have e75 : ρ 75 = .int .i64 ((q' - 1 : Nat) : Int) := h75
            exact index_at 2 rfl Try.underlying34 e72 e75 (by omega) (by kernel_rfl)
          refine tele_val rfl (.pointer (some ⟨bo, 0 + (q' - 1) * 2 + 1, none⟩)) (fun _ _ _ => rfl) ?_ ?_
          · rintro ρ w' he ⟨h76, -⟩
            have e76 : ρ 76 = .pointer (some ⟨bo, 0 + (q' - 1) * 2, none⟩) := h76
            simp [execOp, evR, e76, go_sem]
          refine tele_val rfl (.slice (some ⟨B, 0, none⟩) cs.length cap) (fun _ _ _ => rfl) ?_ ?_
          · rintro ρ w' he ⟨h77, -⟩
            have e77 : ρ 77 = .pointer (some ⟨bo, 0 + (q' - 1) * 2 + 1, none⟩) := h77
            have c0 := (he.cell (p := ⟨bo, (q' - 1) * 2 + 1, none⟩) hbo).trans HLV.out
            simp [execOp, evR, e77, c0, go_sem]
          refine tele_val rfl (.pointer (some ⟨n9, 1, none⟩)) (fun _ _ _ => rfl) ?_ ?_
          · rintro ρ w' he ⟨h9, -⟩
            have e9 : ρ 9 = .pointer (some ⟨n9, 0, none⟩) := h9
            simp [execOp, evR, e9, go_sem]
          refine tele_val rfl (.int .i64 (gn : Int)) (fun _ _ _ => rfl) ?_ ?_
          · rintro ρ w' he ⟨h79, -⟩
            have e79 : ρ 79 = .pointer (some ⟨n9, 1, none⟩) := h79
            have c0 := (H9.out.ext he).cell (i := 1) rfl
            simp [execOp, evR, e79, c0, go_sem]
          refine tele_val rfl (.agg #[.int .i64 x0, .int .i64 x1, .int .i64 x2, .int .i64 x3, .bool x4, strV x5, .int .i64 x6, .int .i64 x7]) (fun _ _ _ => rfl) ?_ ?_
          · rintro ρ w' he ⟨h13, -⟩
            have e13 : ρ 13 = .pointer (some ⟨nk, 0, none⟩) := h13
            have c0 := (HK.out.ext he).cell (i := 0) rfl
            have c1 := (HK.out.ext he).cell (i := 1) rfl
            have c2 := (HK.out.ext he).cell (i := 2) rfl
            have c3 := (HK.out.ext he).cell (i := 3) rfl
            have c4 := (HK.out.ext he).cell (i := 4) rfl
            have c5 := (HK.out.ext he).cell (i := 5) rfl
            have c6 := (HK.out.ext he).cell (i := 6) rfl
            have c7 := (HK.out.ext he).cell (i := 7) rfl
            simp [execOp, evR, e13, c0, c1, c2, c3, c4, c5, c6, c7, go_sem]
          refine tele_val rfl (.pointer (some ⟨B, 0 + gn * 8, none⟩)) (fun _ _ _ => rfl) ?_ ?_
          · rintro ρ w' he ⟨h78, h80, -⟩
            have e78 : ρ 78 = .slice (some ⟨B, 0, none⟩) cs.length cap := h78
            have e80 : ρ 80 = .int .i64 (gn : Int) := h80
            exact index_at 8 rfl Try.underlying45 e78 e80 (by omega) (by kernel_rfl)
          refine tele_nil ?_
          rintro ρ w' hext ⟨f82, f81, f80, f79, f78, f77, f76, f75, f74, f73, f72, -⟩
          clear f72
          clear f73
          clear f74
          clear f75
          clear f76
          clear f77
          clear f78
          clear f79
          clear f80
          replace f81 : ρ 81 = .agg #[.int .i64 x0, .int .i64 x1, .int .i64 x2, .int .i64 x3, .bool x4, strV x5, .int .i64 x6, .int .i64 x7] := f81
          replace f82 : ρ 82 = .pointer (some ⟨B, 0 + gn * 8, none⟩) := f82
          simp only [puts, Act.put, List.setIfInBounds_toArray, List.set_cons_zero, List.set_cons_succ]
          rw [Nat.zero_add] at f82
          rw [f82, f81]
          have HJ3 := Lib.hid (HJ.out.more hext)
          have H33 := Lib.hid (H3.out.ext hext)
          clear HJ H9 HK HLV HX
          have hl := (HJ3.out.own (ky, cs, .slice (some ⟨B, 0, none⟩) cs.length cap) (by simp)).1
          unfold ClsO at hl
          obtain ⟨⟨o0, o1, o2, o3, o4, o5, o6, o7⟩, hco⟩ : ∃ x, cs[gn]? = some x := ⟨_, List.getElem?_eq_getElem hcs0⟩
          have hcg := clsC_get cs gn _ hco
          have y0 := (World.ownsRow.cellAt hl (gn * 8 + 0) (by omega)).trans (hcg 0 (by omega))
          have y1 := (World.ownsRow.cellAt hl (gn * 8 + 1) (by omega)).trans (hcg 1 (by omega))
          have y2 := (World.ownsRow.cellAt hl (gn * 8 + 2) (by omega)).trans (hcg 2 (by omega))
          have y3 := (World.ownsRow.cellAt hl (gn * 8 + 3) (by omega)).trans (hcg 3 (by omega))
          have y4 := (World.ownsRow.cellAt hl (gn * 8 + 4) (by omega)).trans (hcg 4 (by omega))
          have y5 := (World.ownsRow.cellAt hl (gn * 8 + 5) (by omega)).trans (hcg 5 (by omega))
          have y6 := (World.ownsRow.cellAt hl (gn * 8 + 6) (by omega)).trans (hcg 6 (by omega))
          have y7 := (World.ownsRow.cellAt hl (gn * 8 + 7) (by omega)).trans (hcg 7 (by omega))
          simp only [clC, List.getElem?_cons_zero, List.getElem?_cons_succ, Nat.add_zero] at y0 y1 y2 y3 y4 y5 y6 y7
          have f0 := World.ownsRow.frozenAt hl (gn * 8)
          have f1 := World.ownsRow.frozenAt hl (gn * 8 + 1)
          have f2 := World.ownsRow.frozenAt hl (gn * 8 + 2)
          have f3' := World.ownsRow.frozenAt hl (gn * 8 + 3)
          have f4 := World.ownsRow.frozenAt hl (gn * 8 + 4)
          have f5 := World.ownsRow.frozenAt hl (gn * 8 + 5)
          have f6 := World.ownsRow.frozenAt hl (gn * 8 + 6)
          have f7 := World.ownsRow.frozenAt hl (gn * 8 + 7)
          have hB := row_typed hl B rfl
          have hput := HJ3.out.put (x := ⟨x0, x1, x2, x3, x4, x5, x6, x7⟩) hcs0
          have hBz := hB.1
          have h3f := H33.out.kept (set8o_gb w' B (gn * 8) ⟨x0, x1, x2, x3, x4, x5, x6, x7⟩) (fun e => by injection e with e; have := H3L.out; omega)
          unfold set8o at hput h3f
          dsimp only at hput h3f
          have HPT := Lib.hid hput
          have H3F := Lib.hid h3f
          clear hput h3f hl hcg hco H33 HJ3 hB hBz hext
          unfold strV at *
          go_wp2_with fail
          clear y0 y1 y2 y3 y4 y5 y6 y7 f0 f1 f2 f3' f4 f5 f6 f7
          go_roundw
          case rel => exact ⟨k + 1, pre ++ [(ky, cs.set gn ⟨x0, x1, x2, x3, x4, x5, x6, x7⟩, .slice (some ⟨B, 0, none⟩) cs.length cap)], by go_num, HPT, H3F, Lib.hid (by
            have h := HMP.out
            rw [rowsF_step HGET.out]
            unfold rowsStep
            dsimp only
            rw [← HMK.out, ← h, List.map_append]
            simp only [List.map_append, List.map_cons, List.map_nil, erR]
            rw [rowsPut_snoc, HCW.out, Int.toNat_natCast]), by omega, by have := HQ.out; simp only [List.length_append, List.length_singleton] at this ⊢; omega, Lib.hid (by
            intro y hy
            rcases List.mem_append.1 hy with hy | hy
            · exact HOL2.out y hy
            · rw [List.mem_singleton.1 hy]
              rw [List.length_set]
              exact HLN.out)⟩
          case measure => simp [intOf]; omega
    · go_wp2_with fail
      go_ret2
      exact RowsQ.mk _ outs HR.out rfl hj.out HX0.out (by rw [HMK.out, List.take_of_length_le (by omega)])
end Go.Proofs.Ytocdifjdeifclaa
