/-
 Layer 16: the walk of read.
-/
import Derived.Test.YtagghghoimpofaaGreatDoorWalRdP
import Derived.WalkMore
namespace Go.Proofs.YtagghghoimpofaaGreatDoor
open Go Go.RowKit Mono
set_option linter.unusedVariables false
set_option linter.unusedSimpArgs false
set_option maxRecDepth 100000
set_option maxHeartbeats 4000000

/-- What read tells. -/
def ReadQ (W0 W : World) (bd bl bm pl : Nat) (d : Dk) (ms : List FilM) (size fails : Nat) (e : Ending) (w' : World) : Prop := match wReadA d [] [] (wnums d) with
 | none => e = .returned (.tuple #[.slice none 0 0, .bool false, .int .i64 160]) ∧ Kb (fun k => k = bl) W w'
 | some (ss, a, torn) => ∃ va v, e = .returned (.tuple #[va, .bool torn, .int .i64 0]) ∧ RdJ W0 W bd bl bm pl d ms size fails ss v a va w'
theorem wnums_take (names : List (List UInt8)) (k : Nat) (s : List UInt8) (h : names[k]? = some s) : ((names.take (k + 1)).map wnum).filter (fun n => decide (0 < n)) = ((names.take k).map wnum).filter (fun n => decide (0 < n)) ++ (if 0 < wnum s then [wnum s] else []) := by
 rw [List.take_add_one, h]
 simp only [Option.toList, List.map_append, List.filter_append, List.map_cons, List.map_nil]
 congr 1
 by_cases hp : 0 < wnum s
 ·rw [if_pos hp, List.filter_cons_of_pos (by simpa using hp)]; rfl
 ·rw [if_neg hp, List.filter_cons_of_neg (by simpa using hp)]; rfl
theorem wrows_len {d : Dk} (hok : d.Ok) (n : Nat) : (wrows d n).1.length ≤ 1048576 ∧ (wrows d n).2.1 ≤ 1048576 ∧ (dRead d (wname n)).1.length ≤ 1048576 := by
 have hl : (dRead d (wname n)).1.length ≤ 1048576 := by
  unfold dRead
  split
  ·exact Nat.zero_le _
  ·split
   ·exact Nat.zero_le _
   ·rename_i f hf
    exact hok.len f (findF_mem hf).1
 have := frows_len (dRead d (wname n)).1
 unfold wrows
 exact ⟨by omega, by omega, hl⟩
theorem wread_any {W0 W : World} {bd bl bm pl : Nat} {d : Dk} {ms : List FilM} {size fails : Nat} (hc : Cx W0 W bd bl bm pl d ms (.slice none 0 0) ⟨[], size, 0, fails⟩) (hok : d.Ok) :
  Calls Tryz.prog 36 #[.pointer (some ⟨bl, 0, none⟩)] W (ReadQ W0 W bd bl bm pl d ms size fails) := by
 obtain ⟨i0, hi, hz0, hz1, hz2⟩ := info_parts infoIn
 have HI := Lib.hid hi
 have HZ0 := Lib.hid hz0
 have HZ1 := Lib.hid hz1
 have HZ2 := Lib.hid hz2
 have HC := Lib.hid hc
 have HOK := Lib.hid hok
 have HNM := Lib.hid (names_any hc.hd hok)
 have HBL := Lib.hid hc.hl.str.lt
 have k1 := hc.hl.str.blk.cell (i := 1) rfl
 clear hc hok hi hz0 hz1 hz2
 go_enter Tryz.func36, Tryz.ntmps36
 go_wp2_with fail
 go_step3
 go_wp2_with fail
 refine HNM.out.mono ?_
 rintro e w1 ⟨vn, rfl, hss, hx1⟩
 obtain ⟨names, hnames⟩ : ∃ l, l = d.fs.map fun f => f.name := ⟨_, rfl⟩
 rw [← hnames] at hss
 have hfew : names.length ≤ 64 := by rw [hnames]; simpa using HOK.out.few
 have HNL := Lib.hid (show ∀ s ∈ names, s.length ≤ 9223372036854775807 by
  rw [hnames]
  intro s hs
  obtain ⟨f, hf, rfl⟩ := List.mem_map.1 hs
  have := HOK.out.names f hf
  unfold dname at this
  simp at this
  omega)
 have HW := Lib.hid (show wnums d = (names.map wnum).filter fun n => decide (0 < n) by rw [hnames, List.map_map]; rfl)
 obtain ⟨A, c, rfl, s1, s2, s3⟩ := hss.at_
 unfold maxLen at s2
 have HS3 := Lib.hid s3
 have HX1 := Lib.hid hx1
 clear hnames hss s3 hx1 HNM k1 s1 s2
 go_wp2_with fail
 go_loopw [5, 22] (fun nv kv wr => ∃ (k : Nat) (ns : List Nat), k ≤ names.length ∧ kv = .int .i64 (k : Int) ∧ ns = ((names.take k).map wnum).filter (fun n => decide (0 < n)) ∧ wr.ownsRow w1.heap.size 3 1 nv ns.length (ns.map iv64) ∧ Ext w1 wr) (fun _ kv _ => names.length - (intOf kv).toNat)
 case atStart => exact ⟨0, [], Nat.zero_le _, rfl, rfl, World.ownsRow_nil _ _ _ _, Ext.refl _⟩
 case round =>
  obtain ⟨k, ns, hk, rfl, hns, hrow, hx⟩ := hrel
  have hnl : ns.length ≤ 64 := by
   rw [hns]
   refine Nat.le_trans (List.length_filter_le _ _) ?_
   simp
   omega
  have HNS := Lib.hid hns
  have HXX := Lib.hid hx
  clear hns hx
  by_cases hlt : k < names.length
  ·obtain ⟨b, off, rfl, hb, hcell⟩ := HS3.out (by omega)
   obtain ⟨s, hs⟩ : ∃ s, names[k]? = some s := ⟨_, List.getElem?_eq_getElem hlt⟩
   have kc := (HXX.out.cell (p := ⟨b, off + k, none⟩) hb).trans (hcell k s hs)
   have HNU := Lib.hid (wNumber_any s wr (HNL.out s (List.mem_of_getElem? hs)))
   have HT := Lib.hid (wnums_take names k s hs)
   unfold strV at kc HNU
   clear hcell hb hs
   have hk1 : (k : Int) < (names.length : Int) := by omega
   have hk2 : IntKind.i64.wrap ((k : Int) + 1) = ((k + 1 : Nat) : Int) := by rw [IntWalk.i64_in _ (by omega)]; omega
   generalize wnum s = n at *
   go_wp2_with fail
   refine HNU.out.mono ?_
   rintro e w2 ⟨rfl, rfl⟩
   by_cases hp : 0 < n
   ·rw [if_pos hp] at HT
    go_wp2_with (first
     | (at_builtin; refine wpList_append_own _ rfl (.tmp 30) (.tmp 32) 89 rfl w1.heap.size 3 i0 (.int .i64 0) 1 8 Tryz.underlying89 HI.out HZ0.out HZ1.out HZ2.out rfl (by decide) _ _ _ rfl (hrow.alloc _) ⟨wr.heap.size, 0, none⟩ 1 1 [.int .i64 (n : Int)] rfl rfl (cell_one_new _ _ _) (by simp [Value.oneCell']) (by unfold maxLen; omega) (by omega) (by have := HXX.out.size; simp; omega) ?_; intro v' w3 hown' hg3 hnil3; go_frame)
     | go_in)
    go_roundw
    case rel =>
     refine ⟨k + 1, ns ++ [n], by omega, by go_num, ?_, by simpa [iv64] using hown', ?_⟩
     ·rw [HT.out, HNS.out]
     ·exact grown_ext4 (HXX.out.trans (ext_alloc _ _)) (hrow.alloc _) (Nat.le_refl _) hg3
    case measure => simp [intOf]; omega
   ·rw [if_neg hp, List.append_nil] at HT
    obtain rfl : n = 0 := by omega
    go_wp2_with fail
    go_roundw
    case rel => exact ⟨k + 1, ns, by omega, by go_num, by rw [HT.out, HNS.out], hrow, HXX.out⟩
    case measure => simp [intOf]; omega
  ·have hns : ns = wnums d := by rw [HNS.out, HW.out, List.take_of_length_le (by omega)]
   have hk1 : ¬ (k : Int) < (names.length : Int) := by omega
   have HWN := Lib.hid hns
   have HJ := Lib.hid (show RdJ W0 W bd bl bm pl d ms size fails [] (.slice none 0 0) [] (.slice none 0 0) wr from
    ⟨HC.out.ext (HX1.out.trans HXX.out), Kb.of_ext (HX1.out.trans HXX.out), fun j h => (by cases h), [], World.ownsRow_nil _ _ _ _, trivial⟩)
   have hsl : ∃ A n c, u5 = .slice A n c := isSl_row hrow
   obtain ⟨A5, n5, c5, rfl⟩ := hsl
   have hn5 : n5 = ns.length := by
    rcases hrow.2 with ⟨h1, h2⟩ | ⟨_, _, _, h1, _⟩
    ·injection h1 with _ h1 _; omega
    ·injection h1
   subst hn5
   have hrow0 := Ow.sl (e := 3) (base := w1.heap.size) (w := wr) (v := .slice A5 ns.length c5) (xs := ns.map iv64) (by unfold Ow; simpa using hrow)
   have HRW := Lib.hid hrow0
   have HNB := Lib.hid (show ∀ n ∈ ns, n ≤ 999999999999 by
    rw [hns]
    intro n hn
    unfold wnums at hn
    obtain ⟨hn, -⟩ := List.mem_filter.1 hn
    obtain ⟨f, -, rfl⟩ := List.mem_map.1 hn
    exact wnum_lt _)
   have HROW := Lib.hid hrow
   have HXW := Lib.hid (HX1.out.trans HXX.out)
   clear hns hk HNL HS3 hrow0 HX1 HNS HXX HW
   go_wp2_with fail
   go_step3
   go_wp2_with fail
   clear hlt hk1 hfew
   go_loopw [2, 3, 37] (fun av tv kv w => ∃ (k : Nat) (ss : List WSeg) (acc : List (List UInt8)) (v : Value), k ≤ ns.length ∧ kv = .int .i64 (k : Int) ∧ tv = .bool false ∧ ss.length = k ∧ acc.length ≤ k * 1048576 ∧ wReadA d [] [] ns = wReadA d ss acc (ns.drop k) ∧ RdJ W0 W bd bl bm pl d ms size fails ss v acc av w ∧ w.ownsRow w1.heap.size 3 1 (.slice A5 ns.length c5) ns.length (ns.map iv64)) (fun _ _ kv _ => ns.length - (intOf kv).toNat)
   case atStart => exact ⟨0, [], [], .slice none 0 0, Nat.zero_le _, rfl, rfl, rfl, Nat.zero_le _, rfl, HJ.out, HROW.out⟩
   case round =>
    clear HJ HRW HROW hrow
    obtain ⟨k, ss, acc, v, hk, rfl, rfl, hss, hacc, hrd, hj, hrow⟩ := hrel
    have HJ2 := Lib.hid hj
    have HRD := Lib.hid hrd
    have HSS := Lib.hid hss
    have HACC := Lib.hid hacc
    clear hj hrd hss hacc
    by_cases hlt : k < ns.length
    rotate_left
    ·have hk1 : ¬ (k : Int) < (ns.length : Int) := by omega
     have hend : wReadA d [] [] (wnums d) = some (ss, acc, false) := by rw [← HWN.out, HRD.out, List.drop_eq_nil_of_le (by omega)]; rfl
     have HEND := Lib.hid hend
     clear hend
     go_wp2_with fail
     go_ret3
     unfold ReadQ
     rw [HEND.out]
     exact ⟨_, v, rfl, HJ2.out⟩
    obtain ⟨n, hn⟩ : ∃ n, ns[k]? = some n := ⟨_, List.getElem?_eq_getElem hlt⟩
    have hrow1 := ow_of_row hrow
    rcases hrow1.form with ⟨hq, -⟩ | ⟨g, cap, hq, -, -, -, -, hcell, -⟩
    ·injection hq with _ hq _
     omega
    injection hq with hq hq2 hq3
    clear hq2 hq3
    subst hq
    have kc := hcell k (iv64 n) (by rw [List.getElem?_map, hn]; rfl)
    unfold iv64 at kc
    have hn9 : n ≤ 999999999999 := HNB.out n (List.mem_of_getElem? hn)
    have hk1 : (k : Int) < (ns.length : Int) := by omega
    have HROW := Lib.hid hrow
    have HN := Lib.hid hn
    have HN9 := Lib.hid hn9
    clear hcell hrow hrow1 hn hn9
    go_wp2_with fail
    refine wp_region_mono (by kernel_rfl) (by kernel_rfl) ?_
    refine tele_move rfl (.inl rfl) rfl (isV (.pointer (some ⟨bl, 0, none⟩))) (fun ρ w' h => h) ?_
    refine tele_val rfl (.pointer (some ⟨bl, 0, none⟩)) (fun _ _ _ => rfl) ?_ ?_
    ·rintro ρ w' he ⟨h43, -⟩
     have e43 : ρ 43 = (.pointer (some ⟨bl, 0, none⟩)) := h43
     simp [execOp, evR, e43, go_sem]
    refine tele_val rfl (.pointer (some ⟨bl, 1, none⟩)) (fun _ _ _ => rfl) ?_ ?_
    ·rintro ρ w' he ⟨h44, -⟩
     have e44 : ρ 44 = (.pointer (some ⟨bl, 0, none⟩)) := h44
     simp [execOp, evR, e44, go_sem]
    refine tele_val rfl (.pointer (some ⟨bd, 0, none⟩)) (fun _ _ _ => rfl) ?_ ?_
    ·rintro ρ w' he ⟨h45, -⟩
     have e45 : ρ 45 = (.pointer (some ⟨bl, 1, none⟩)) := h45
     have c := (HJ2.out.cx.hl.ext he).str.blk.cell (i := 1) rfl
     simp [execOp, evR, e45, c, go_sem]
    refine tele_move rfl (.inl rfl) rfl (isV (.int .i64 (n : Int))) (fun ρ w' h => h) ?_
    refine tele_call rfl rfl Tryz.func38 (by kernel_rfl) (isV (.string ⟨(wname (n : Int)).toArray⟩)) (fun _ _ _ => rfl) ?_ ?_
    ·rintro ρ w' he ⟨h47, -⟩
     have e47 : ρ 47 = (.int .i64 (n : Int)) := h47
     simp only [evR, List.map_toArray, List.map_cons, List.map_nil, e47]
     refine (wName_any (n : Int) w' (HJ2.out.cx.hT.ext (HJ2.out.cx.hx.trans he))).mono ?_
     rintro e w2 ⟨rfl, hx2⟩
     exact ⟨_, rfl, hx2, rfl⟩
    refine tele_call rfl rfl Tryz.func34 (by kernel_rfl) (isRead W.heap.size (dRead d (wname (n : Int))).1 (dRead d (wname (n : Int))).2) (fun _ _ _ => rfl) ?_ ?_
    ·rintro ρ w' he ⟨h46, h48, -⟩
     have e46 : ρ 46 = (.pointer (some ⟨bd, 0, none⟩)) := h46
     have e48 : ρ 48 = (.string ⟨(wname (n : Int)).toArray⟩) := h48
     simp only [evR, List.map_toArray, List.map_cons, List.map_nil, e46, e48]
     refine (read_any (HJ2.out.cx.hd.ext he) HOK.out (wname (n : Int)) (Nat.le_trans (wname_len _) (by decide))).mono ?_
     rintro e w2 ⟨vb, rfl, hob, hx2⟩
     exact ⟨_, rfl, hx2, vb, rfl, OwB.mono hob (Nat.le_trans HJ2.out.kb.size he.size)⟩
    refine tele_move rfl (.inl rfl) rfl (isRead W.heap.size (dRead d (wname (n : Int))).1 (dRead d (wname (n : Int))).2) (fun ρ w' h => h) ?_
    refine tele_any rfl (isOwB W.heap.size (dRead d (wname (n : Int))).1) ?_ ?_
    ·rintro ρ w' he hk
     rw [if_pos (show wantedR _ _ _ = true from rfl)]
     obtain ⟨h42, -⟩ := hk
     have e42 : (isRead W.heap.size (dRead d (wname (n : Int))).1 (dRead d (wname (n : Int))).2).rel (ρ 42) w' := h42
     obtain ⟨vb, hv, ho⟩ := e42
     simp [execOp, evR, hv, go_sem, monoUpon]
     exact ⟨Ext.refl _, ho⟩
    refine tele_any rfl (isV (.int .i64 ((dRead d (wname (n : Int))).2 : Int))) ?_ ?_
    ·rintro ρ w' he hk
     rw [if_pos (show wantedR _ _ _ = true from rfl)]
     obtain ⟨h42, -⟩ := hk
     have e42 : (isRead W.heap.size (dRead d (wname (n : Int))).1 (dRead d (wname (n : Int))).2).rel (ρ 42) w' := h42
     obtain ⟨vb, hv, ho⟩ := e42
     simp [execOp, evR, hv, go_sem, monoUpon]
     exact ⟨Ext.refl _, rfl⟩
    refine tele_move rfl (.inr rfl) rfl (isOwB W.heap.size (dRead d (wname (n : Int))).1) (fun ρ w' h => h) ?_
    refine tele_move rfl (.inr rfl) rfl (isV (.int .i64 ((dRead d (wname (n : Int))).2 : Int))) (fun ρ w' h => h) ?_
    refine tele_nil ?_
    rintro ρ w' hext ⟨f12, f11, f51, f50, f42, f49, f48, f47, f46, f45, f44, f43, -⟩
    replace f11 : (isOwB W.heap.size (dRead d (wname (n : Int))).1).rel (ρ 11) w' := f11
    replace f12 : ρ 12 = (.int .i64 ((dRead d (wname (n : Int))).2 : Int)) := f12
    simp only [puts, Act.put, List.setIfInBounds_toArray, List.set_cons_zero, List.set_cons_succ]
    have hvb : OwB w' W.heap.size (ρ 11) (dRead d (wname (n : Int))).1 := f11
    rw [f12]
    generalize ρ 11 = vb at *
    clear kc f11 f12 f42 f43 f44 f45 f46 f47 f48 f49 f50 f51
    have hszw := Nat.le_trans HJ2.out.kb.size hext.size
    replace HJ2 := Lib.hid (HJ2.out.ext hext)
    replace HROW := Lib.hid (row_keptT HROW.out (Kb.of_ext (fp := fun _ => False) hext) (fun _ _ _ _ h => h.elim))
    clear hext
    obtain ⟨hr1, hr2, hr3⟩ := wrows_len HOK.out n
    have HFR := Lib.hid (fRowsO_any vb _ w' hvb.bs (by omega))
    obtain ⟨Ab, cb, rfl, -⟩ := hvb.bs.open_
    obtain ⟨rw_, hrw⟩ : ∃ r, r = wrows d n := ⟨_, rfl⟩
    have HRW := Lib.hid hrw
    rw [show frows (dRead d (wname (n : Int))).1 = rw_ from hrw.symm] at HFR
    rw [← hrw] at hr1 hr2
    obtain ⟨lb, hlb⟩ : ∃ n', n' = (dRead d (wname (n : Int))).1.length := ⟨_, rfl⟩
    rw [← hlb] at hr3 HFR
    rw [← hlb]
    have HLB := Lib.hid hlb
    obtain ⟨rows, kb, eb⟩ := rw_
    dsimp only at hr1 hr2 HFR
    clear hrw hlb hvb
    go_wp2_with fail
    refine HFR.out.mono ?_
    rintro e w3 ⟨vr, rfl, hbr, hx3⟩
    replace HJ2 := Lib.hid (HJ2.out.ext hx3)
    replace HROW := Lib.hid (row_keptT HROW.out (Kb.of_ext (fp := fun _ => False) hx3) (fun _ _ _ _ h => h.elim))
    have hbr2 := hbr.mono hszw
    obtain ⟨Ar, cr, rfl⟩ := hbr2.form
    obtain ⟨g', cv', w4, hrun, hk0, ht0, hkb4, hj4⟩ := HJ2.out.seg (by rw [HSS.out]; omega) ⟨n, rows.length, kb⟩ 71
    have k0 := HJ2.out.cx.hl.str.blk.cell (i := 0) rfl
    have hlty := HJ2.out.cx.hl.ltype
    have hbr4 := hbr2.kb hkb4 (fun j C T fz hq hb => by rcases hlty j C T fz hq hb with rfl | rfl <;> exact ⟨by decide, by decide⟩)
    have hrow4 := row_keptT HROW.out hkb4 (fun j C T fz hq hb => by rcases hlty j C T fz hq hb with rfl | rfl <;> decide)
    obtain ⟨A6, n6, c6, w6, hrun6, hkb6, hty6, hj6⟩ := hj4.app HC.out.hx.size HBL.out hbr4 (by have := HACC.out; omega) 47
    have hrow6 := row_keptT hrow4 hkb6 (fun j C T fz hq hb => by rw [hty6 j C T fz hq hb]; decide)
    have HRUN := Lib.hid hrun
    have HRUN6 := Lib.hid hrun6
    have HJ6 := Lib.hid hj6
    have HROW6 := Lib.hid hrow6
    have hwl : IntKind.i64.wrap ((ns.length : Int) - 1) = (ns.length : Int) - 1 := by rw [IntWalk.i64_in _ (by omega)]
    have HWL := Lib.hid hwl
    clear hbr hbr2 hbr4 hrow4 hkb4 hkb6 hty6 hj6 hj4 hrun hrun6 hlty hx3 hszw hrow6 HROW HFR hwl
    by_cases hlast : k + 1 = ns.length
    ·have hq : wReadA d [] [] (wnums d) = some (ss ++ [⟨n, rows.length, kb⟩], acc ++ rows, decide (kb < lb)) := by
      rw [← HWN.out, HRD.out, List.drop_eq_getElem_cons hlt, List.drop_eq_nil_of_le (by omega)]
      have hn := HN.out
      rw [List.getElem?_eq_getElem hlt] at hn
      injection hn with hn
      rw [hn, HLB.out]
      unfold wReadA wseg
      rw [← HRW.out]
     have HQ := Lib.hid hq
     have hwl : IntKind.i64.wrap ((ns.length : Int) - 1) = (k : Int) := by rw [HWL.out]; omega
     clear hq hlast
     go_wp2_with (first
      | (at_builtin; refine wpList_append_run rfl (.tmp 63) (.tmp 69) 71 rfl rfl rfl HRUN.out ?_)
      | (at_builtin; refine wpList_append_run rfl (.tmp 74) (.tmp 75) 47 rfl rfl rfl HRUN6.out ?_)
      | go_in)
     rw [Exit.noGoto_ret]
     go_ret3
     unfold ReadQ
     rw [HQ.out]
     exact ⟨_, _, rfl, HJ6.out⟩
    ·obtain ⟨m, hm⟩ : ∃ m, ns[k + 1]? = some m := ⟨_, List.getElem?_eq_getElem (by omega)⟩
     have hq : wReadA d [] [] ns = if eb ≠ 0 ∨ m ≠ n + rows.length then none else wReadA d (ss ++ [⟨n, rows.length, kb⟩]) (acc ++ rows) (ns.drop (k + 1)) := by
      have hk2 : k + 1 < ns.length := by omega
      rw [HRD.out, List.drop_eq_getElem_cons hlt, List.drop_eq_getElem_cons hk2]
      have hn := HN.out
      rw [List.getElem?_eq_getElem hlt] at hn
      injection hn with hn
      rw [List.getElem?_eq_getElem hk2] at hm
      injection hm with hm
      rw [hn, hm]
      conv => lhs; unfold wReadA
      unfold wseg
      rw [← HRW.out]
     have HQ := Lib.hid hq
     obtain ⟨q, hqd⟩ : ∃ q, q = (ns.length : Int) - 1 := ⟨_, rfl⟩
     have hkq : ¬ (k : Int) = q := by omega
     have hwl : IntKind.i64.wrap ((ns.length : Int) - 1) = q := by rw [HWL.out, hqd]
     rcases (ow_of_row HROW6.out).form with ⟨hq, -⟩ | ⟨g6, cap, hq, -, -, -, -, hcell, -⟩
     ·injection hq with hq _ _
      cases hq
     injection hq with hq hq2 hq3
     clear hq2 hq3
     injection hq with hq
     injection hq with hq _ _
     subst hq
     obtain ⟨k2, hk2⟩ : ∃ k2, k2 = k + 1 := ⟨_, rfl⟩
     have kc2 := hcell k2 (iv64 m) (by rw [List.getElem?_map, hk2, hm]; rfl)
     unfold iv64 at kc2
     have hm9 : m ≤ 999999999999 := HNB.out m (List.mem_of_getElem? hm)
     have hk2w : IntKind.i64.wrap ((k : Int) + 1) = (k2 : Int) := by rw [IntWalk.i64_in _ (by omega)]; omega
     have hk2l : (k2 : Int) < (ns.length : Int) := by omega
     have hk20 : ¬ (k2 : Int) < 0 := by omega
     obtain ⟨s, hs⟩ : ∃ s, s = n + rows.length := ⟨_, rfl⟩
     have hsw : IntKind.i64.wrap ((n : Int) + (rows.length : Int)) = (s : Int) := by rw [IntWalk.i64_in _ (by have := HN9.out; omega)]; omega
     rw [← hs] at HQ
     have HK2 := Lib.hid hk2
     have HWNN := Lib.hid HWN.out
     have HLT := Lib.hid (show k2 ≤ ns.length by omega)
     have HKL := Lib.hid (show k + 1 = k2 by omega)
     clear hm hlast hqd hcell hm9 hs hk2
     by_cases he : eb = 0
     rotate_left
     ·have he1 : ¬ (eb : Int) = 0 := by omega
      rw [if_pos (.inl he)] at HQ
      clear he
      go_wp2_with (first
       | (at_builtin; refine wpList_append_run rfl (.tmp 63) (.tmp 69) 71 rfl rfl rfl HRUN.out ?_)
       | (at_builtin; refine wpList_append_run rfl (.tmp 74) (.tmp 75) 47 rfl rfl rfl HRUN6.out ?_)
       | go_in)
      rw [Exit.noGoto_ret]
      go_ret3
      unfold ReadQ
      rw [← HWN.out, HQ.out]
      exact ⟨rfl, HJ6.out.kb⟩
     subst he
     by_cases hms : m = s
     rotate_left
     ·have hms1 : ¬ (m : Int) = (s : Int) := by omega
      rw [if_pos (.inr hms)] at HQ
      clear hms
      go_wp2_with (first
       | (at_builtin; refine wpList_append_run rfl (.tmp 63) (.tmp 69) 71 rfl rfl rfl HRUN.out ?_)
       | (at_builtin; refine wpList_append_run rfl (.tmp 74) (.tmp 75) 47 rfl rfl rfl HRUN6.out ?_)
       | go_in)
      rw [Exit.noGoto_ret]
      go_ret3
      unfold ReadQ
      rw [← HWN.out, HQ.out]
      exact ⟨rfl, HJ6.out.kb⟩
     ·subst hms
      rw [if_neg (by simp)] at HQ
      go_wp2_with (first
       | (at_builtin; refine wpList_append_run rfl (.tmp 63) (.tmp 69) 71 rfl rfl rfl HRUN.out ?_)
       | (at_builtin; refine wpList_append_run rfl (.tmp 74) (.tmp 75) 47 rfl rfl rfl HRUN6.out ?_)
       | go_in)
      go_roundw
      case rel => exact ⟨k2, _, _, _, HLT.out, rfl, rfl, by rw [List.length_append, HSS.out, List.length_singleton, HKL.out], by rw [List.length_append, ← HKL.out]; have := HACC.out; omega, by rw [HQ.out, HKL.out], HJ6.out, HROW6.out⟩
      case measure => have := HKL.out; simp [intOf]; omega
end Go.Proofs.YtagghghoimpofaaGreatDoor

/-
 Layer 16: a log is opened.
-/
namespace Go.Proofs.YtagghghoimpofaaGreatDoor
open Go Go.RowKit Mono
set_option linter.unusedVariables false
set_option linter.unusedSimpArgs false
set_option maxRecDepth 100000
set_option maxHeartbeats 4000000

theorem BssF.ofT {w : World} {z : Nat} {v : Value} {ls : List (List UInt8)} {fp : Nat → Prop} (h : BssO w z v ls) (hf : ∀ k (C : Array Value) (T : TypeId) fz, fp k → z ≤ k → w.heap[k]? = some (.cells C T fz) → T ≠ 34 ∧ T ≠ 5) : BssF w z v ls fp := by
 obtain ⟨vs, h1, h2⟩ := h
 refine ⟨vs, h1, h2, fun j hj hq => ?_, fun u hu j hj hq => ?_⟩
 ·obtain ⟨cur, hb⟩ := row_type h1 hj
  exact (hf j _ _ _ hq (World.ownsRow.lt h1 j hj).1 hb).1 rfl
 ·obtain ⟨y, hy⟩ := h2.mem_left u hu
  obtain ⟨cur, fz, hb⟩ := hy.type hj
  exact (hf j _ _ _ hq (World.ownsRow.lt hy j hj).1 hb).2 rfl
theorem BssF.low {w : World} {z z' : Nat} {v : Value} {ls : List (List UInt8)} {fp : Nat → Prop} (h : BssF w z v ls fp) (hz : z' ≤ z) : BssF w z' v ls fp := by
 obtain ⟨vs, h1, h2, h3, h4⟩ := h
 exact ⟨vs, row_down h1 hz, h2.mono fun _ _ hy => OwB.mono hy hz, h3, h4⟩
/-- What Open tells. -/
def OpenQ (W0 W : World) (bd bm pl : Nat) (d : Dk) (ms : List FilM) (size : Int) (e : Ending) (w' : World) : Prop := ∃ pl' ms', match (wOpen d size).l with
 | none => e = .returned (.tuple #[.pointer none, .slice none 0 0, .int .i64 ((wOpen d size).e : Int)]) ∧ DkS W0.heap.size W w' bd bm pl d ms pl' (wOpen d size).d ms'
 | some l => ∃ bl va v, e = .returned (.tuple #[.pointer (some ⟨bl, 0, none⟩), va, .int .i64 0]) ∧ Cx W0 w' bd bl bm pl' (wOpen d size).d ms' v l ∧ Cont (dall bd bm pl d ms) W (cfp bd bl bm pl' (wOpen d size).d ms' v) w' ∧ BssF w' W.heap.size va (wOpen d size).r (cfp bd bl bm pl' (wOpen d size).d ms' v)
theorem OpenQ.bad {W0 W : World} {bd bm pl pl' : Nat} {d : Dk} {ms ms' : List FilM} {size : Int} {e : Ending} {w' : World} {d' : Dk} {n : Nat} (h : wOpen d size = ⟨d', none, [], n⟩) (he : e = .returned (.tuple #[.pointer none, .slice none 0 0, .int .i64 (n : Int)])) (hs : DkS W0.heap.size W w' bd bm pl d ms pl' d' ms') : OpenQ W0 W bd bm pl d ms size e w' := by
 refine ⟨pl', ms', ?_⟩
 rw [h]
 exact ⟨he, hs⟩
theorem OpenQ.good {W0 W : World} {bd bl bm pl pl' : Nat} {d : Dk} {ms ms' : List FilM} {size : Int} {e : Ending} {w' : World} {d' : Dk} {l : Lg} {r : List (List UInt8)} {va v : Value} (h : wOpen d size = ⟨d', some l, r, 0⟩) (he : e = .returned (.tuple #[.pointer (some ⟨bl, 0, none⟩), va, .int .i64 0])) (hc : Cx W0 w' bd bl bm pl' d' ms' v l) (hk : Cont (dall bd bm pl d ms) W (cfp bd bl bm pl' d' ms' v) w') (hb : BssF w' W.heap.size va r (cfp bd bl bm pl' d' ms' v)) : OpenQ W0 W bd bm pl d ms size e w' := by
 refine ⟨pl', ms', ?_⟩
 rw [h]
 exact ⟨bl, va, v, he, hc, hk, hb⟩
theorem read_empty {d : Dk} (hok : d.Ok) (hon : d.on = true) : (dRead d []).2 = 152 := by
 have hn : findF [] d.fs = none := by
  unfold findF
  rw [List.find?_eq_none]
  intro f hf
  have := hok.names f hf
  unfold dname at this
  simp at this
  simp
  rintro e
  rw [e] at this
  simp at this
 unfold dRead
 rw [hon, hn]
 rfl
theorem read_off {d : Dk} (hon : d.on = false) : (dRead d []).2 = 150 := by unfold dRead; rw [hon]; rfl
/-- Open's log, before it is read. -/
theorem log_new {W0 w : World} {bd bm pl : Nat} {d : Dk} {ms : List FilM} (hd : DkM W0.heap.size w bd bm pl d ms) (hx : Ext W0 w) (hT : TbW W0) (size : Nat) :
  Cx W0 (w.alloc (.cells #[.slice none 0 0, .pointer (some ⟨bd, 0, none⟩), .int .i64 (size : Int), .int .i64 0, .int .i64 (d.fails : Int)] 75)) bd w.heap.size bm pl d ms (.slice none 0 0) ⟨[], size, 0, d.fails⟩ :=
 ⟨hd.ext (ext_alloc _ _), ⟨BlkT.new w #[.slice none 0 0, .pointer (some ⟨bd, 0, none⟩), .int .i64 (size : Int), .int .i64 0, .int .i64 (d.fails : Int)] 75, World.ownsRow_nil _ _ _ _, hx.size⟩, hx.trans (ext_alloc _ _), hT⟩
theorem Cx.dks {W0 W w : World} {bd bl bm pl pl' : Nat} {d d' : Dk} {ms ms' : List FilM} {v : Value} {l : Lg} (h : Cx W0 W bd bl bm pl d ms v l) (hs : DkS W0.heap.size W w bd bm pl d ms pl' d' ms') : Cx W0 w bd bl bm pl' d' ms' v l ∧ Cont (cfp bd bl bm pl d ms v) W (cfp bd bl bm pl' d' ms' v) w :=
 h.disk (hs.kb.mono fun b hb => .inl hb) hs.dk hs.fp
/-- A log that is let go again. -/
theorem Cont.dks {W0 W w : World} {bd bl bm pl pl' : Nat} {d d' : Dk} {ms ms' : List FilM} {v : Value} {l : Lg} (hc : Cx W0 w bd bl bm pl' d' ms' v l) (hk : Cont (dall bd bm pl d ms) W (cfp bd bl bm pl' d' ms' v) w) : DkS W0.heap.size W w bd bm pl d ms pl' d' ms' :=
 ⟨hc.hd, hk.kb, fun k hk2 => hk.sub k (.inl hk2)⟩
/-- The number of the last record that is sure is set. -/
theorem Cx.sure {W0 w : World} {bd bl bm pl : Nat} {d : Dk} {ms : List FilM} {v : Value} {l : Lg} (h : Cx W0 w bd bl bm pl d ms v l) (n : Nat) :
  Cx W0 (w.setCell ⟨bl, 3, none⟩ (.int .i64 (n : Int))) bd bl bm pl d ms v { l with sure := n } ∧ Cont (cfp bd bl bm pl d ms v) w (cfp bd bl bm pl d ms v) (w.setCell ⟨bl, 3, none⟩ (.int .i64 (n : Int))) :=
 h.put (h.hl.put (l' := { l with sure := n }) 3 (.int .i64 (n : Int)) rfl rfl) (Kb.set _ w bl 3 _ (.inl rfl)) (fun _ h => .inl h)
theorem wReadA_ne {d : Dk} : ∀ (nums : List Nat) (ss : List WSeg) (a : List (List UInt8)) (ss' : List WSeg) (a' : List (List UInt8)) (t : Bool), wReadA d ss a nums = some (ss', a', t) → (nums = [] ∧ ss' = ss ∧ a' = a ∧ t = false) ∨ ∃ m, ss'.getLastD ⟨1, 0, 0⟩ = wseg d m ∧ ss' ≠ [] ∧ m ∈ nums
 | [], ss, a, ss', a', t, h => by
  unfold wReadA at h
  injection h with h
  injection h with h1 h
  injection h with h2 h3
  exact .inl ⟨rfl, h1.symm, h2.symm, h3.symm⟩
 | [n], ss, a, ss', a', t, h => by
  unfold wReadA at h
  injection h with h
  injection h with h1 h
  subst h1
  exact .inr ⟨n, by rw [List.getLastD_concat], by simp, List.mem_singleton_self n⟩
 | n :: m :: r, ss, a, ss', a', t, h => by
  rw [wReadA] at h
  split at h
  ·cases h
  ·rcases wReadA_ne (m :: r) _ _ ss' a' t h with ⟨h1, _⟩ | ⟨q, h1, h2, h3⟩
   ·cases h1
   ·exact .inr ⟨q, h1, h2, List.mem_cons_of_mem _ h3⟩
theorem wread_last {d : Dk} (hok : d.Ok) {ss : List WSeg} {a : List (List UInt8)} {t : Bool} (h : wReadA d [] [] (wnums d) = some (ss, a, t)) (hne : ss ≠ []) : (ss.getLastD ⟨1, 0, 0⟩).frm ≤ 999999999999 ∧ 1 ≤ (ss.getLastD ⟨1, 0, 0⟩).frm ∧ (ss.getLastD ⟨1, 0, 0⟩).count ≤ 1048576 ∧ (ss.getLastD ⟨1, 0, 0⟩).bytes ≤ 1048576 := by
 rcases wReadA_ne _ _ _ _ _ _ h with ⟨_, h1, _⟩ | ⟨m, h1, _, hm⟩
 ·exact absurd h1 hne
 ·have := wrows_len hok m
  unfold wnums at hm
  obtain ⟨hm1, hm2⟩ := List.mem_filter.1 hm
  obtain ⟨f, -, rfl⟩ := List.mem_map.1 hm1
  rw [h1]
  exact ⟨wnum_lt _, (by simpa using hm2 : 0 < wnum f.name), this.1, this.2.1⟩
theorem wopen_any {W0 W : World} {bd bm pl c0 : Nat} {d : Dk} {ms : List FilM} (hd : DkM W0.heap.size W bd bm pl d ms) (hx : Ext W0 W) (hT : TbW W0) (hok : d.Ok) (hsc : d.SmallC c0) (hc0 : c0 + 10 ≤ 1000000000) (size : Int) :
  Calls Tryz.prog 12 #[.pointer (some ⟨bd, 0, none⟩), .int .i64 size] W (OpenQ W0 W bd bm pl d ms size) := by
 have HRD := Lib.hid (read_any hd hok [] (by decide))
 have HU := Lib.hid (show wOpen d size = if d.on = false then ⟨d, none, [], 150⟩ else if size < 1 ∨ 1048576 < size then ⟨d, none, [], 2⟩ else match wReadA d [] [] (wnums d) with
  | none => ⟨d, none, [], 160⟩
  | some (ss, a, torn) =>
   if ss = [] then (if (dMake d (wname 1)).2 ≠ 0 then ⟨(dMake d (wname 1)).1, none, [], (dMake d (wname 1)).2⟩ else wOpened (dMake d (wname 1)).1 [⟨1, 0, 0⟩] a size.toNat d.fails)
   else if (wMend d (ss.getLastD ⟨1, 0, 0⟩) torn).2 ≠ 0 then ⟨(wMend d (ss.getLastD ⟨1, 0, 0⟩) torn).1, none, [], (wMend d (ss.getLastD ⟨1, 0, 0⟩) torn).2⟩
   else wOpened (wMend d (ss.getLastD ⟨1, 0, 0⟩) torn).1 ss a size.toNat d.fails from rfl)
 have HD := Lib.hid hd
 have HX := Lib.hid hx
 have HT := Lib.hid hT
 have HOK := Lib.hid hok
 have HSC := Lib.hid hsc
 have HC0 := Lib.hid hc0
 have hpe : (strV []) = .string ⟨#[]⟩ := rfl
 rw [hpe] at HRD
 clear hd hx hT hsc hc0 hpe
 cases hon : d.on
 ·rw [read_off hon] at HRD
  rw [if_pos hon] at HU
  go_enter Tryz.func12, Tryz.ntmps12
  go_wp2_with fail
  refine HRD.out.mono ?_
  rintro e w1 ⟨v1, rfl, -, hx1⟩
  go_wp2_with fail
  go_ret3
  exact OpenQ.bad HU.out rfl (DkS.ext HD.out hx1)
 rw [read_empty hok hon] at HRD
 rw [if_neg (by simp [hon])] at HU
 by_cases hs1 : size < 1
 ·rw [if_pos (.inl hs1)] at HU
  clear hok
  go_enter Tryz.func12, Tryz.ntmps12
  go_wp2_with fail
  refine HRD.out.mono ?_
  rintro e w1 ⟨v1, rfl, -, hx1⟩
  go_wp2_with fail
  go_ret3
  exact OpenQ.bad HU.out rfl (DkS.ext HD.out hx1)
 by_cases hs2 : 1048576 < size
 ·rw [if_pos (.inr hs2)] at HU
  clear hok
  go_enter Tryz.func12, Tryz.ntmps12
  go_wp2_with fail
  refine HRD.out.mono ?_
  rintro e w1 ⟨v1, rfl, -, hx1⟩
  go_wp2_with fail
  go_ret3
  exact OpenQ.bad HU.out rfl (DkS.ext HD.out hx1)
 rw [if_neg (by omega)] at HU
 obtain ⟨sz, rfl⟩ : ∃ sz : Nat, size = (sz : Int) := ⟨size.toNat, by omega⟩
 rw [Int.toNat_natCast] at HU
 clear hok
 go_enter Tryz.func12, Tryz.ntmps12
 go_wp2_with fail
 refine HRD.out.mono ?_
 rintro e w1 ⟨v1, rfl, -, hx1⟩
 have HX1 := Lib.hid hx1
 have HFS := Lib.hid (fails_any (HD.out.ext hx1))
 clear hx1 HRD
 go_wp2_with fail
 refine HFS.out.mono ?_
 rintro e w2 ⟨rfl, rfl⟩
 clear HFS hs1 hs2
 have HLN := Lib.hid (log_new (HD.out.ext HX1.out) (HX.out.trans HX1.out) HT.out sz)
 have HX2 := Lib.hid (HX1.out.trans (ext_alloc _ (.cells #[.slice none 0 0, .pointer (some ⟨bd, 0, none⟩), .int .i64 (sz : Int), .int .i64 0, .int .i64 (d.fails : Int)] 75)))
 have HRE := Lib.hid (wread_any HLN.out HOK.out)
 obtain ⟨bl, hbl⟩ : ∃ bl, bl = w2.heap.size := ⟨_, rfl⟩
 have HBLW := Lib.hid (show W.heap.size ≤ bl by rw [hbl]; exact HX1.out.size)
 have HDLT := Lib.hid (show ∀ k, dall bd bm pl d ms k → k < bl by intro k hk; have := HD.out.lt k hk; have := HBLW.out; omega)
 rw [← hbl] at HRE HLN
 go_wp2_with fail
 rw [← hbl]
 refine HRE.out.mono ?_
 intro e w3 hq
 unfold ReadQ at hq
 clear HRE hbl
 cases hw : wReadA d [] [] (wnums d) with
 | none =>
  rw [hw] at hq HU
  obtain ⟨rfl, hkb⟩ := hq
  have hdk : DkM W0.heap.size w3 bd bm pl d ms := HLN.out.hd.kb hkb (fun j hj e => by have := HDLT.out j (.inl hj); omega) (fun m hm j hj e => by have := HDLT.out j (.inr ⟨m, hm, hj⟩); omega)
  have HDS := Lib.hid (show DkS W0.heap.size W w3 bd bm pl d ms pl d ms from ⟨hdk, Kb.of_ext (hkb.ext HX2.out (fun b hb => by rw [hb]; exact HBLW.out)), fun _ h => .inl h⟩)
  clear hkb hdk hw
  go_wp2_with fail
  go_ret3
  exact OpenQ.bad HU.out rfl HDS.out
 | some p =>
  obtain ⟨ss, a, torn⟩ := p
  rw [hw] at hq HU
  dsimp only at hq HU
  obtain ⟨va, v, rfl, hj⟩ := hq
  have HLAST := Lib.hid (wread_last HOK.out hw)
  have HC := Lib.hid hj.cx
  have HK := Lib.hid (show Cont (dall bd bm pl d ms) W (cfp bd bl bm pl d ms v) w3 from ⟨Kb.of_ext (hj.kb.ext HX2.out (fun b hb => by rw [hb]; exact HBLW.out)), fun k hk => by
   rcases hk with hk | rfl | hk
   ·exact .inl hk
   ·exact .inr HBLW.out
   ·exact .inr (Nat.le_trans HX2.out.size (hj.vnew k hk))⟩)
  have HB := Lib.hid (show BssF w3 W.heap.size va a (cfp bd bl bm pl d ms v) from (BssF.ofT hj.acc (fun k C T fz hk hz hb => by
   rcases hk with hk | hk
   ·have := HDLT.out k hk
    have := HLN.out.hl.str.lt
    omega
   ·rcases hj.cx.hl.ltype k C T fz hk hb with rfl | rfl <;> exact ⟨by decide, by decide⟩)).low HX2.out.size)
  clear hj hw HLN HX2 HDLT HBLW
  by_cases hse : ss = []
  ·subst hse
   rw [if_pos rfl] at HU
   obtain ⟨A3, c3, rfl⟩ : ∃ A c, v = .slice A 0 c := by
    rcases HC.out.hl.row.2 with ⟨h1, _⟩ | ⟨g, cap, cur, h1, _⟩
    ·exact ⟨none, 0, h1⟩
    ·exact ⟨_, cap, h1⟩
   have hxa := ext_alloc w3 (.cells #[.int .i64 1, .int .i64 0, .int .i64 0] 79)
   have hca := HC.out.ext hxa
   have k0 := HC.out.hl.str.blk.cell (i := 0) rfl
   have k0a := hca.hl.str.blk.cell (i := 0) rfl
   have t0a := hca.hl.str.blk.thaw 0
   have hrw := World.ownsRow_lit (size := 3) (e := 79) w3 #[.int .i64 1, .int .i64 0, .int .i64 0] 1 (HC.out.hx.size) (by decide) rfl
   have hsw := LgM.swap (l' := ⟨[⟨1, 0, 0⟩], sz, 0, d.fails⟩) hca.hl.str hca.hl.zl hrw ⟨rfl, rfl, rfl⟩
   obtain ⟨hcb, hkb⟩ := HC.out.put hsw ((Kb.of_ext (fp := lall bl (.slice A3 0 c3)) hxa).trans (Kb.set (lall bl (.slice A3 0 c3)) _ bl 0 _ (.inl rfl)) (fun _ h => .inl h)) (fun j hj => hj.elim (fun h => .inl (.inl h)) (fun h => .inr (by
    have h1 : some w3.heap.size = some j := h
    injection h1 with h1
    omega)))
   have HSNE := Lib.hid (show ([⟨1, 0, 0⟩] : List WSeg) ≠ [] by simp)
   have HNB := Lib.hid (show (⟨[⟨1, 0, 0⟩], sz, 0, d.fails⟩ : Lg).next ≤ 9000000000000000000 by show 1 + 0 ≤ _; decide)
   have HN1 := Lib.hid (show 1 ≤ (⟨[⟨1, 0, 0⟩], sz, 0, d.fails⟩ : Lg).next by show 1 ≤ 1 + 0; decide)
   replace HB := Lib.hid (HB.out.step hkb)
   replace HK := Lib.hid (HK.out.trans hkb)
   replace HC := Lib.hid hcb
   clear hxa hca hrw hsw hcb hkb
   have HNA := Lib.hid (wName_any 1 _ (HT.out.ext HC.out.hx))
   go_wp2_with fail
   refine HNA.out.mono ?_
   rintro e w6 ⟨rfl, hx6⟩
   clear k0 k0a t0a
   replace HC := Lib.hid (HC.out.ext hx6)
   replace HK := Lib.hid (HK.out.ext hx6)
   replace HB := Lib.hid (HB.out.kb (Kb.of_ext hx6))
   clear hx6
   have HMK := Lib.hid (make_any HC.out.hd HOK.out (HSC.out.small (by have := HC0.out; omega)) HC.out.hx.size (wname 1) (Nat.le_trans (wname_len _) (by decide)))
   go_wp2_with fail
   refine (HMK.out).mono ?_
   rintro e w7 ⟨pl2, ms2, rfl, hs7⟩
   obtain ⟨hc7, hk7⟩ := HC.out.dks hs7
   replace HB := Lib.hid (HB.out.step hk7)
   replace HK := Lib.hid (HK.out.trans hk7)
   replace HC := Lib.hid hc7
   clear hs7 hc7 hk7
   generalize dMake d (wname 1) = x at *
   by_cases hx0 : x.2 = 0
   rotate_left
   ·have hx1 : ¬ (x.2 : Int) = 0 := by omega
    rw [if_pos hx0] at HU
    clear hx0
    go_wp2_with fail
    go_ret3
    exact OpenQ.bad HU.out rfl (Cont.dks HC.out HK.out)
   rw [if_neg (by omega)] at HU
   rw [hx0]
   have hlne : (⟨[⟨1, 0, 0⟩], sz, 0, d.fails⟩ : Lg).segs ≠ [] := HSNE.out
   have HKN := Lib.hid (wnext_any HC.out.hl hlne HNB.out)
   have HNB2 := Lib.hid HNB.out
   obtain ⟨q, hq⟩ : ∃ q, q = (⟨[⟨1, 0, 0⟩], sz, 0, d.fails⟩ : Lg).next := ⟨_, rfl⟩
   rw [← hq] at HKN HNB2 HN1
   have HQD := Lib.hid hq
   clear hlne hq
   go_wp2_with fail
   refine HKN.out.mono ?_
   rintro e w9 ⟨rfl, hx9⟩
   have hc9 := HC.out.ext hx9
   have hk9 := HK.out.ext hx9
   have hb9 := HB.out.kb (Kb.of_ext hx9)
   have hw : IntKind.i64.wrap ((q : Int) - 1) = ((q - 1 : Nat) : Int) := by rw [IntWalk.i64_in _ (by have := HNB2.out; have := HN1.out; omega)]; have := HN1.out; omega
   have k3 := hc9.hl.str.blk.cell (i := 3) rfl
   have t3 := hc9.hl.str.blk.thaw 3
   obtain ⟨hc10, hk10⟩ := hc9.sure (q - 1)
   have HC10 := Lib.hid hc10
   have HK10 := Lib.hid (hk9.trans hk10)
   have HB10 := Lib.hid (hb9.step hk10)
   clear hc9 hk9 hb9 hc10 hk10 hx9
   obtain ⟨q1, hq1⟩ : ∃ q1, q1 = q - 1 := ⟨_, rfl⟩
   rw [← hq1] at HC10 HK10 HB10 hw
   have HQ1 := Lib.hid hq1
   clear hq1
   go_wp2_with fail
   go_ret3
   refine OpenQ.good (HU.out.trans ?_) rfl HC10.out HK10.out HB10.out
   unfold wOpened
   rw [HQ1.out, HQD.out]
  ·rw [if_neg hse] at HU
   obtain ⟨g, cv, rfl, -⟩ := HC.out.hl.slice (show (⟨ss, sz, 0, d.fails⟩ : Lg).segs ≠ [] from hse)
   have k0 := HC.out.hl.str.blk.cell (i := 0) rfl
   have hpos : 0 < ss.length := List.length_pos_iff.2 hse
   have hsl : (⟨ss, sz, 0, d.fails⟩ : Lg).segs.length = ss.length := rfl
   rw [hsl] at k0 HC HK HB
   have hlen0 : ¬ (ss.length : Int) = 0 := by omega
   obtain ⟨i, hi⟩ : ∃ i, i = ss.length - 1 := ⟨_, rfl⟩
   obtain ⟨s, hs⟩ : ∃ s, s = ss.getLastD ⟨1, 0, 0⟩ := ⟨_, rfl⟩
   have hi2 := Lg.last_at (l := ⟨ss, sz, 0, d.fails⟩) hse
   rw [show (⟨ss, sz, 0, d.fails⟩ : Lg).segs.length - 1 = i from hi.symm, show (⟨ss, sz, 0, d.fails⟩ : Lg).last = s from hs.symm] at hi2
   rw [← hs] at HU HLAST
   have HI := Lib.hid hi
   have HI2 := Lib.hid hi2
   have HNB := Lib.hid (show (⟨ss, sz, 0, d.fails⟩ : Lg).next ≤ 9000000000000000000 by have := HLAST.out hse; unfold Lg.next; rw [show (⟨ss, sz, 0, d.fails⟩ : Lg).last = s from hs.symm]; omega)
   have HN1 := Lib.hid (show 1 ≤ (⟨ss, sz, 0, d.fails⟩ : Lg).next by have := HLAST.out hse; unfold Lg.next; rw [show (⟨ss, sz, 0, d.fails⟩ : Lg).last = s from hs.symm]; omega)
   have HSNE := Lib.hid hse
   have HLA := Lib.hid (wlast_any HC.out.hl (show (⟨ss, sz, 0, d.fails⟩ : Lg).segs ≠ [] from hse))
   rw [show (⟨ss, sz, 0, d.fails⟩ : Lg).segs.length - 1 = i from hi.symm] at HLA
   clear hi hi2 hs hpos hsl
   go_wp2_with fail
   refine HLA.out.mono ?_
   rintro e w4 ⟨rfl, hx4⟩
   clear k0 hlen0 HLA
   replace HC := Lib.hid (HC.out.ext hx4)
   replace HK := Lib.hid (HK.out.ext hx4)
   replace HB := Lib.hid (HB.out.kb (Kb.of_ext hx4))
   clear hx4
   cases torn
   ·replace HU := Lib.hid (HU.out.trans (show _ = if (dSync d (wname (s.frm : Int))).2 ≠ 0 then (⟨(dSync d (wname (s.frm : Int))).1, none, [], (dSync d (wname (s.frm : Int))).2⟩ : Wo) else wOpened (dSync d (wname (s.frm : Int))).1 ss a sz d.fails from rfl))
    have HLA2 := Lib.hid (wlast_any HC.out.hl (show (⟨ss, sz, 0, d.fails⟩ : Lg).segs ≠ [] from hse))
    rw [show (⟨ss, sz, 0, d.fails⟩ : Lg).segs.length - 1 = i from HI.out.symm] at HLA2
    go_wp2_with fail
    refine HLA2.out.mono ?_
    rintro e w5 ⟨rfl, hx5⟩
    replace HC := Lib.hid (HC.out.ext hx5)
    replace HK := Lib.hid (HK.out.ext hx5)
    replace HB := Lib.hid (HB.out.kb (Kb.of_ext hx5))
    clear hx5
    have c1 := (LgM.cells HC.out.hl HI2.out).1
    have HNA := Lib.hid (wName_any (s.frm : Int) w5 (HT.out.ext HC.out.hx))
    go_wp2_with fail
    refine HNA.out.mono ?_
    rintro e w6 ⟨rfl, hx6⟩
    replace HC := Lib.hid (HC.out.ext hx6)
    replace HK := Lib.hid (HK.out.ext hx6)
    replace HB := Lib.hid (HB.out.kb (Kb.of_ext hx6))
    clear hx6
    have HSY := Lib.hid (sync_any HC.out.hd HOK.out (HSC.out.small (by have := HC0.out; omega)) HC.out.hx.size (wname (s.frm : Int)) (Nat.le_trans (wname_len _) (by decide)))
    clear c1
    go_wp2_with fail
    refine (HSY.out).mono ?_
    rintro e w7 ⟨pl2, ms2, rfl, hs7⟩
    obtain ⟨hc7, hk7⟩ := HC.out.dks hs7
    replace HB := Lib.hid (HB.out.step hk7)
    replace HK := Lib.hid (HK.out.trans hk7)
    replace HC := Lib.hid hc7
    clear hs7 hc7 hk7
    generalize dSync d (wname (s.frm : Int)) = x at *
    by_cases hx0 : x.2 = 0
    rotate_left
    ·have hx1 : ¬ (x.2 : Int) = 0 := by omega
     rw [if_pos hx0] at HU
     clear hx0
     go_wp2_with fail
     go_ret3
     exact OpenQ.bad HU.out rfl (Cont.dks HC.out HK.out)
    rw [if_neg (by omega)] at HU
    rw [hx0]
    have hlne : (⟨ss, sz, 0, d.fails⟩ : Lg).segs ≠ [] := HSNE.out
    have HKN := Lib.hid (wnext_any HC.out.hl hlne HNB.out)
    have HNB2 := Lib.hid HNB.out
    obtain ⟨q, hq⟩ : ∃ q, q = (⟨ss, sz, 0, d.fails⟩ : Lg).next := ⟨_, rfl⟩
    rw [← hq] at HKN HNB2 HN1
    have HQD := Lib.hid hq
    clear hlne hq
    go_wp2_with fail
    refine HKN.out.mono ?_
    rintro e w9 ⟨rfl, hx9⟩
    have hc9 := HC.out.ext hx9
    have hk9 := HK.out.ext hx9
    have hb9 := HB.out.kb (Kb.of_ext hx9)
    have hw : IntKind.i64.wrap ((q : Int) - 1) = ((q - 1 : Nat) : Int) := by rw [IntWalk.i64_in _ (by have := HNB2.out; have := HN1.out; omega)]; have := HN1.out; omega
    have k3 := hc9.hl.str.blk.cell (i := 3) rfl
    have t3 := hc9.hl.str.blk.thaw 3
    obtain ⟨hc10, hk10⟩ := hc9.sure (q - 1)
    have HC10 := Lib.hid hc10
    have HK10 := Lib.hid (hk9.trans hk10)
    have HB10 := Lib.hid (hb9.step hk10)
    clear hc9 hk9 hb9 hc10 hk10 hx9
    obtain ⟨q1, hq1⟩ : ∃ q1, q1 = q - 1 := ⟨_, rfl⟩
    rw [← hq1] at HC10 HK10 HB10 hw
    have HQ1 := Lib.hid hq1
    clear hq1
    go_wp2_with fail
    go_ret3
    refine OpenQ.good (HU.out.trans ?_) rfl HC10.out HK10.out HB10.out
    unfold wOpened
    rw [HQ1.out, HQD.out]
   ·replace HU := Lib.hid (HU.out.trans (show _ = if (if (dCut d (wname (s.frm : Int)) (s.bytes : Int)).2 ≠ 0 then dCut d (wname (s.frm : Int)) (s.bytes : Int) else dSync (dCut d (wname (s.frm : Int)) (s.bytes : Int)).1 (wname (s.frm : Int))).2 ≠ 0 then (⟨(if (dCut d (wname (s.frm : Int)) (s.bytes : Int)).2 ≠ 0 then dCut d (wname (s.frm : Int)) (s.bytes : Int) else dSync (dCut d (wname (s.frm : Int)) (s.bytes : Int)).1 (wname (s.frm : Int))).1, none, [], (if (dCut d (wname (s.frm : Int)) (s.bytes : Int)).2 ≠ 0 then dCut d (wname (s.frm : Int)) (s.bytes : Int) else dSync (dCut d (wname (s.frm : Int)) (s.bytes : Int)).1 (wname (s.frm : Int))).2⟩ : Wo) else wOpened (if (dCut d (wname (s.frm : Int)) (s.bytes : Int)).2 ≠ 0 then dCut d (wname (s.frm : Int)) (s.bytes : Int) else dSync (dCut d (wname (s.frm : Int)) (s.bytes : Int)).1 (wname (s.frm : Int))).1 ss a sz d.fails from rfl))
    have HYOK := Lib.hid (dCut_ok HOK.out (wname (s.frm : Int)) (s.bytes : Int))
    have HYSM := Lib.hid ((HSC.out.grow (dCut_grow d (wname (s.frm : Int)) (s.bytes : Int))).small (by have := HC0.out; omega))
    go_wp2_with fail
    refine wp_region_tok [false, false, false, false, false, true, false, false, false, false, true, false] (Kb (FFd w4 bd bm pl d ms)) (fun c w => if c < 2 then DkM W0.heap.size w bd bm pl d ms else ∃ pl2 ms2, DkM W0.heap.size w bd bm pl2 (dCut d (wname (s.frm : Int)) (s.bytes : Int)).1 ms2 ∧ ∀ k, dall bd bm pl2 (dCut d (wname (s.frm : Int)) (s.bytes : Int)).1 ms2 k → FFd w4 bd bm pl d ms k) 2 (by kernel_rfl) (by kernel_rfl) (by kernel_rfl) (by kernel_rfl) (preKb' _) (Kb.of_ext (ext_drew w4)) (HC.out.hd.ext (ext_drew w4)) ?_
    refine tok_val rfl (.pointer (some ⟨bd, 0, none⟩)) (fun _ _ _ => rfl) ?_ ?_
    ·rintro ρ w' he ⟨h0, -⟩
     have e0 : ρ 0 = .pointer (some ⟨bd, 0, none⟩) := h0
     simp [execOp, evR, e0, go_sem]
    refine tok_val rfl (.pointer (some ⟨g, i * 3, none⟩)) (fun _ _ _ => rfl) ?_ ?_
    ·rintro ρ w' he ⟨h13, -⟩
     have e13 : ρ 13 = .pointer (some ⟨g, i * 3, none⟩) := h13
     simp [execOp, evR, e13, go_sem]
    refine tok_val rfl (.pointer (some ⟨g, i * 3, none⟩)) (fun _ _ _ => rfl) ?_ ?_
    ·rintro ρ w' he ⟨h52, -⟩
     have e52 : ρ 52 = .pointer (some ⟨g, i * 3, none⟩) := h52
     simp [execOp, evR, e52, go_sem]
    refine tok_val rfl (.pointer (some ⟨g, i * 3, none⟩)) (fun _ _ _ => rfl) ?_ ?_
    ·rintro ρ w' he ⟨h53, -⟩
     have e53 : ρ 53 = .pointer (some ⟨g, i * 3, none⟩) := h53
     simp [execOp, evR, e53, go_sem]
    refine tok_val rfl (.int .i64 (s.frm : Int)) (fun _ _ _ => rfl) ?_ ?_
    ·rintro ρ w' he ⟨h54, -⟩
     have e54 : ρ 54 = .pointer (some ⟨g, i * 3, none⟩) := h54
     have c := (LgM.cells (HC.out.log he) HI2.out).1
     simp [execOp, evR, e54, c, go_sem]
    refine tok_call rfl rfl Tryz.func38 (by kernel_rfl) (fun v _ => v = .string ⟨(wname (s.frm : Int)).toArray⟩) (fun _ _ _ h _ => h) (fun _ _ _ => rfl) ?_ ?_
    ·rintro ρ w' he ht ⟨h55, -⟩
     have e55 : ρ 55 = .int .i64 (s.frm : Int) := h55
     simp only [evR, List.map_toArray, List.map_cons, List.map_nil, e55]
     have hp : DkM W0.heap.size w' bd bm pl d ms := ht
     refine (wName_any (s.frm : Int) w' (HC.out.tb he)).mono ?_
     rintro e w2 ⟨rfl, hx2⟩
     exact ⟨_, rfl, Kb.of_ext hx2, rfl, hp.ext hx2⟩
    refine tok_val rfl (.pointer (some ⟨g, i * 3, none⟩)) (fun _ _ _ => rfl) ?_ ?_
    ·rintro ρ w' he ⟨h13, -⟩
     have e13 : ρ 13 = .pointer (some ⟨g, i * 3, none⟩) := h13
     simp [execOp, evR, e13, go_sem]
    refine tok_val rfl (.pointer (some ⟨g, i * 3, none⟩)) (fun _ _ _ => rfl) ?_ ?_
    ·rintro ρ w' he ⟨h57, -⟩
     have e57 : ρ 57 = .pointer (some ⟨g, i * 3, none⟩) := h57
     simp [execOp, evR, e57, go_sem]
    refine tok_val rfl (.pointer (some ⟨g, i * 3 + 2, none⟩)) (fun _ _ _ => rfl) ?_ ?_
    ·rintro ρ w' he ⟨h58, -⟩
     have e58 : ρ 58 = .pointer (some ⟨g, i * 3, none⟩) := h58
     simp [execOp, evR, e58, go_sem]
    refine tok_val rfl (.int .i64 (s.bytes : Int)) (fun _ _ _ => rfl) ?_ ?_
    ·rintro ρ w' he ⟨h59, -⟩
     have e59 : ρ 59 = .pointer (some ⟨g, i * 3 + 2, none⟩) := h59
     have c := (LgM.cells (HC.out.log he) HI2.out).2.2
     simp [execOp, evR, e59, c, go_sem]
    refine tok_call rfl rfl Tryz.func40 (by kernel_rfl) (fun v _ => v = .int .i64 ((dCut d (wname (s.frm : Int)) (s.bytes : Int)).2 : Int)) (fun _ _ _ h _ => h) (fun _ _ _ => rfl) ?_ ?_
    ·rintro ρ w' he ht ⟨h51, h56, h60, -⟩
     have e51 : ρ 51 = .pointer (some ⟨bd, 0, none⟩) := h51
     have e56 : ρ 56 = .string ⟨(wname (s.frm : Int)).toArray⟩ := h56
     have e60 : ρ 60 = .int .i64 (s.bytes : Int) := h60
     simp only [evR, List.map_toArray, List.map_cons, List.map_nil, e51, e56, e60]
     have hp : DkM W0.heap.size w' bd bm pl d ms := ht
     refine (cut_any hp HOK.out (HSC.out.small (by have := HC0.out; omega)) (HC.out.ext_ he).size (wname (s.frm : Int)) (Nat.le_trans (wname_len _) (by decide)) (s.bytes : Int)).mono ?_
     rintro e w2 hq
     exact tok_disk he hq
    refine tok_val rfl (.int .i64 ((dCut d (wname (s.frm : Int)) (s.bytes : Int)).2 : Int)) (fun _ _ _ => rfl) ?_ ?_
    ·rintro ρ w' he ⟨h61, -⟩
     have e61 : ρ 61 = .int .i64 ((dCut d (wname (s.frm : Int)) (s.bytes : Int)).2 : Int) := h61
     simp [execOp, evR, e61, go_sem]
    refine tok_nil ?_
    rintro ρ w' hle htk ⟨f12, f61, f60, f59, f58, f57, f56, f55, f54, f53, f52, f51, -⟩ -
    replace f12 : ρ 12 = .int .i64 ((dCut d (wname (s.frm : Int)) (s.bytes : Int)).2 : Int) := f12
    simp only [puts, Act.put, List.setIfInBounds_toArray, List.set_cons_zero, List.set_cons_succ]
    rw [f12]
    clear f12 f51 f52 f53 f54 f55 f56 f57 f58 f59 f60 f61
    obtain ⟨pl2, ms2, hd2, hf2⟩ := (show ∃ pl2 ms2, DkM W0.heap.size w' bd bm pl2 (dCut d (wname (s.frm : Int)) (s.bytes : Int)).1 ms2 ∧ ∀ k, dall bd bm pl2 (dCut d (wname (s.frm : Int)) (s.bytes : Int)).1 ms2 k → FFd w4 bd bm pl d ms k from htk)
    obtain ⟨hc7, hk7⟩ := HC.out.disk hle hd2 hf2
    replace HB := Lib.hid (HB.out.step hk7)
    replace HK := Lib.hid (HK.out.trans hk7)
    replace HC := Lib.hid hc7
    clear hc7 hk7 hd2 hf2 hle htk
    generalize dCut d (wname (s.frm : Int)) (s.bytes : Int) = y at *
    by_cases hy0 : y.2 = 0
    rotate_left
    ·have hy1 : ¬ (y.2 : Int) = 0 := by omega
     rw [if_pos hy0, if_pos hy0] at HU
     clear hy0
     go_wp2_with fail
     go_ret3
     exact OpenQ.bad HU.out rfl (Cont.dks HC.out HK.out)
    have hy2 : ¬ y.2 ≠ 0 := by omega
    simp only [if_neg hy2] at HU
    clear hy2
    rw [hy0]
    have HLA2 := Lib.hid (wlast_any HC.out.hl (show (⟨ss, sz, 0, d.fails⟩ : Lg).segs ≠ [] from hse))
    rw [show (⟨ss, sz, 0, d.fails⟩ : Lg).segs.length - 1 = i from HI.out.symm] at HLA2
    go_wp2_with fail
    refine HLA2.out.mono ?_
    rintro e w5 ⟨rfl, hx5⟩
    replace HC := Lib.hid (HC.out.ext hx5)
    replace HK := Lib.hid (HK.out.ext hx5)
    replace HB := Lib.hid (HB.out.kb (Kb.of_ext hx5))
    clear hx5
    have c1 := (LgM.cells HC.out.hl HI2.out).1
    have HNA := Lib.hid (wName_any (s.frm : Int) w5 (HT.out.ext HC.out.hx))
    go_wp2_with fail
    refine HNA.out.mono ?_
    rintro e w6 ⟨rfl, hx6⟩
    replace HC := Lib.hid (HC.out.ext hx6)
    replace HK := Lib.hid (HK.out.ext hx6)
    replace HB := Lib.hid (HB.out.kb (Kb.of_ext hx6))
    clear hx6
    have HSY := Lib.hid (sync_any HC.out.hd HYOK.out HYSM.out HC.out.hx.size (wname (s.frm : Int)) (Nat.le_trans (wname_len _) (by decide)))
    clear c1
    go_wp2_with fail
    refine (HSY.out).mono ?_
    rintro e w7 ⟨pl3, ms3, rfl, hs7⟩
    obtain ⟨hc7, hk7⟩ := HC.out.dks hs7
    replace HB := Lib.hid (HB.out.step hk7)
    replace HK := Lib.hid (HK.out.trans hk7)
    replace HC := Lib.hid hc7
    clear hs7 hc7 hk7
    generalize dSync y.1 (wname (s.frm : Int)) = x at *
    by_cases hx0 : x.2 = 0
    rotate_left
    ·have hx1 : ¬ (x.2 : Int) = 0 := by omega
     rw [if_pos hx0] at HU
     clear hx0
     go_wp2_with fail
     go_ret3
     exact OpenQ.bad HU.out rfl (Cont.dks HC.out HK.out)
    rw [if_neg (by omega)] at HU
    rw [hx0]
    have hlne : (⟨ss, sz, 0, d.fails⟩ : Lg).segs ≠ [] := HSNE.out
    have HKN := Lib.hid (wnext_any HC.out.hl hlne HNB.out)
    have HNB2 := Lib.hid HNB.out
    obtain ⟨q, hq⟩ : ∃ q, q = (⟨ss, sz, 0, d.fails⟩ : Lg).next := ⟨_, rfl⟩
    rw [← hq] at HKN HNB2 HN1
    have HQD := Lib.hid hq
    clear hlne hq
    go_wp2_with fail
    refine HKN.out.mono ?_
    rintro e w9 ⟨rfl, hx9⟩
    have hc9 := HC.out.ext hx9
    have hk9 := HK.out.ext hx9
    have hb9 := HB.out.kb (Kb.of_ext hx9)
    have hw : IntKind.i64.wrap ((q : Int) - 1) = ((q - 1 : Nat) : Int) := by rw [IntWalk.i64_in _ (by have := HNB2.out; have := HN1.out; omega)]; have := HN1.out; omega
    have k3 := hc9.hl.str.blk.cell (i := 3) rfl
    have t3 := hc9.hl.str.blk.thaw 3
    obtain ⟨hc10, hk10⟩ := hc9.sure (q - 1)
    have HC10 := Lib.hid hc10
    have HK10 := Lib.hid (hk9.trans hk10)
    have HB10 := Lib.hid (hb9.step hk10)
    clear hc9 hk9 hb9 hc10 hk10 hx9
    obtain ⟨q1, hq1⟩ : ∃ q1, q1 = q - 1 := ⟨_, rfl⟩
    rw [← hq1] at HC10 HK10 HB10 hw
    have HQ1 := Lib.hid hq1
    clear hq1
    go_wp2_with fail
    go_ret3
    refine OpenQ.good (HU.out.trans ?_) rfl HC10.out HK10.out HB10.out
    unfold wOpened
    rw [HQ1.out, HQD.out]
end Go.Proofs.YtagghghoimpofaaGreatDoor

/-
 Layer 16: what holds of every log, and of its disk.
-/
namespace Go.Proofs.YtagghghoimpofaaGreatDoor
open Go Go.RowKit Mono
set_option linter.unusedVariables false
set_option linter.unusedSimpArgs false
set_option maxRecDepth 100000

/-- What holds of a log's segments behind c operations. -/
structure LOk (c : Nat) (l : Lg) : Prop where
 ne : l.segs ≠ []
 frm : ∀ s ∈ l.segs, 1 ≤ s.frm ∧ s.frm ≤ 999999999999
 nx : l.next ≤ 1000010000000
 bytes : l.last.bytes ≤ 2000000 + c * 300000
 len : l.segs.length ≤ 64 + c
theorem LOk.last_ {c : Nat} {l : Lg} (h : LOk c l) : 1 ≤ l.last.frm ∧ l.last.frm ≤ 999999999999 := h.frm _ (Lg.last_mem h.ne)
theorem LOk.pos {c : Nat} {l : Lg} (h : LOk c l) : 1 ≤ l.next := Nat.le_trans h.last_.1 (Nat.le_add_right _ _)
theorem LOk.of_segs {c : Nat} {l l' : Lg} (h : LOk c l) (e : l'.segs = l.segs) : LOk c l' := by
 have e1 : l'.last = l.last := by unfold Lg.last; rw [e]
 exact ⟨by rw [e]; exact h.ne, by rw [e]; exact h.frm, by unfold Lg.next; rw [e1]; exact h.nx, by rw [e1]; exact h.bytes, by rw [e]; exact h.len⟩
theorem LOk.more {c c' : Nat} {l : Lg} (h : LOk c l) (hc : c ≤ c') : LOk c' l := ⟨h.ne, h.frm, h.nx, Nat.le_trans h.bytes (by omega), Nat.le_trans h.len (by omega)⟩
theorem LOk.nx9 {c : Nat} {l : Lg} (h : LOk c l) : l.next ≤ 8000000000000000000 := Nat.le_trans h.nx (by decide)
theorem wSync_lok {c : Nat} {d : Dk} {l : Lg} (h : LOk c l) : LOk c (wSync d l).1.2 := h.of_segs (wSync_segs d l).1
theorem wRoll_lok {c : Nat} {d : Dk} {l : Lg} (h : LOk c l) (hm : l.next ≤ 999999999999) : LOk (c + 1) (wRoll d l).1.2 := by
 by_cases hz : (wRoll d l).2 = 0
 ·obtain ⟨h1, -, -⟩ := wRoll_done d l hz
  have hl : (wRoll d l).1.2.last = ⟨l.next, 0, 0⟩ := Lg.last_snoc _ _ h1
  refine ⟨by rw [h1]; simp, ?_, by unfold Lg.next; rw [hl]; show l.next + 0 ≤ _; have := h.nx; omega, by rw [hl]; exact Nat.zero_le _, by rw [h1, List.length_append, List.length_singleton]; have := h.len; omega⟩
  rw [h1]
  intro s hs
  rcases List.mem_append.1 hs with hs | hs
  ·exact h.frm s hs
  ·rw [List.mem_singleton.1 hs]
   exact ⟨h.pos, hm⟩
 ·have hs : (wRoll d l).1.2.segs = l.segs := by
   unfold wRoll at hz ⊢
   split
   ·exact (wSync_segs d l).1
   ·rename_i hq
    rw [if_neg hq] at hz
    unfold wRoll1 at hz ⊢
    split
    ·exact (wSync_segs d l).1
    ·rename_i hq2
     rw [if_neg hq2] at hz
     exact absurd rfl hz
  exact (h.of_segs hs).more (Nat.le_succ _)
theorem up_lok {c n : Nat} {l : Lg} (h : LOk c l) (hm : l.next < 999999999999) (hn : n ≤ 300000) : LOk (c + 1) (l.up n) := by
 obtain ⟨h1, h2, h3⟩ := Lg.up_segs l n h.ne
 refine ⟨h1, ?_, by rw [Lg.up_next l n h.ne]; omega, by rw [h3]; show _ + n ≤ _; have := h.bytes; omega, by rw [h2]; have := h.len; omega⟩
 intro s hs
 unfold Lg.up at hs
 rcases List.mem_append.1 hs with hs | hs
 ·exact h.frm s (List.dropLast_subset _ hs)
 ·rw [List.mem_singleton.1 hs]
  exact h.last_
theorem wPut_lok {c : Nat} {d : Dk} {l : Lg} {f : List UInt8} (h : LOk c l) (hm : l.next < 999999999999) (hn : f.length ≤ 300000) : LOk (c + 1) (wPut d l f).1.2 := by
 unfold wPut
 split
 ·exact h.more (Nat.le_succ _)
 ·exact up_lok h hm hn
theorem wAppend_lok {c : Nat} {d : Dk} {l : Lg} {rec : List UInt8} (h : LOk c l) : LOk (c + 2) (wAppend d l rec).1.2 := by
 unfold wAppend
 split
 ·exact h.more (by omega)
 ·split
  ·exact h.more (by omega)
  ·split
   ·exact h.more (by omega)
   ·have hw := wrap_len rec
    have hr := wRoll_lok (d := d) h (by omega)
    split
    ·split
     ·exact hr.more (by omega)
     ·rename_i hz
      obtain ⟨h1, -, -⟩ := wRoll_done d l (by omega)
      have hl : (wRoll d l).1.2.last = ⟨l.next, 0, 0⟩ := Lg.last_snoc _ _ h1
      exact wPut_lok hr (by unfold Lg.next; rw [hl]; show l.next + 0 < _; omega) (by omega)
    ·exact (wPut_lok h (by omega) (by omega)).more (by omega)
theorem wPut_ok {d : Dk} (h : d.Ok) (l : Lg) (f : List UInt8) : (wPut d l f).1.1.Ok := by
 unfold wPut
 split
 ·exact dAppend_ok h _ _
 ·exact dAppend_ok h _ _
theorem wPut_small {c : Nat} {d : Dk} (h : d.SmallC c) (l : Lg) (f : List UInt8) : (wPut d l f).1.1.SmallC (c + 1) := by
 unfold wPut
 split
 ·exact h.grow (dAppend_grow _ _ _)
 ·exact h.grow (dAppend_grow _ _ _)
theorem wAppend_ok {d : Dk} (h : d.Ok) (l : Lg) (rec : List UInt8) : (wAppend d l rec).1.1.Ok := by
 unfold wAppend
 repeat' split
 ·exact h
 ·exact h
 ·exact h
 ·exact wRoll_ok h l
 ·exact wPut_ok (wRoll_ok h l) _ _
 ·exact wPut_ok h _ _
theorem wAppend_small {c : Nat} {d : Dk} (h : d.SmallC c) (l : Lg) (rec : List UInt8) : (wAppend d l rec).1.1.SmallC (c + 3) := by
 unfold wAppend
 repeat' split
 ·exact h.more (by omega)
 ·exact h.more (by omega)
 ·exact h.more (by omega)
 ·exact (wRoll_small h l).more (by omega)
 ·exact wPut_small (wRoll_small h l) _ _
 ·exact (wPut_small h _ _).more (by omega)
theorem wReadA_segs {d : Dk} : ∀ (nums : List Nat) (ss : List WSeg) (a : List (List UInt8)) (ss' : List WSeg) (a' : List (List UInt8)) (t : Bool), wReadA d ss a nums = some (ss', a', t) → ss'.length = ss.length + nums.length ∧ ∀ s ∈ ss', s ∈ ss ∨ ∃ m ∈ nums, s = wseg d m
 | [], ss, a, ss', a', t, h => by
  unfold wReadA at h
  injection h with h
  injection h with h1 h
  subst h1
  exact ⟨rfl, fun s hs => .inl hs⟩
 | [n], ss, a, ss', a', t, h => by
  unfold wReadA at h
  injection h with h
  injection h with h1 h
  subst h1
  refine ⟨by simp, fun s hs => ?_⟩
  rcases List.mem_append.1 hs with hs | hs
  ·exact .inl hs
  ·exact .inr ⟨n, List.mem_singleton_self n, List.mem_singleton.1 hs⟩
 | n :: m :: r, ss, a, ss', a', t, h => by
  rw [wReadA] at h
  split at h
  ·cases h
  ·obtain ⟨h1, h2⟩ := wReadA_segs (m :: r) _ _ ss' a' t h
   refine ⟨by rw [h1]; simp; omega, fun s hs => ?_⟩
   rcases h2 s hs with hs | ⟨q, hq, rfl⟩
   ·rcases List.mem_append.1 hs with hs | hs
    ·exact .inl hs
    ·exact .inr ⟨n, List.mem_cons_self, List.mem_singleton.1 hs⟩
   ·exact .inr ⟨q, List.mem_cons_of_mem _ hq, rfl⟩
theorem wMend_ok {d : Dk} (h : d.Ok) (s : WSeg) (t : Bool) : (wMend d s t).1.Ok := by
 unfold wMend
 repeat' split
 ·exact dCut_ok h _ _
 ·exact dSync_ok (dCut_ok h _ _) _
 ·exact dSync_ok h _
theorem wMend_small {c : Nat} {d : Dk} (h : d.SmallC c) (s : WSeg) (t : Bool) : (wMend d s t).1.SmallC (c + 2) := by
 unfold wMend
 repeat' split
 ·exact (h.grow (dCut_grow _ _ _)).more (by omega)
 ·exact (h.grow (dCut_grow _ _ _)).grow (dSync_grow _ _)
 ·exact (h.grow (dSync_grow _ _)).more (by omega)
theorem wnums_mem {d : Dk} {n : Nat} (h : n ∈ wnums d) : 1 ≤ n ∧ n ≤ 999999999999 := by
 unfold wnums at h
 obtain ⟨h1, h2⟩ := List.mem_filter.1 h
 obtain ⟨f, -, rfl⟩ := List.mem_map.1 h1
 exact ⟨(by simpa using h2 : 0 < wnum f.name), wnum_lt _⟩
theorem wnums_len {d : Dk} (h : d.Ok) : (wnums d).length ≤ 64 := by
 unfold wnums
 refine Nat.le_trans (List.length_filter_le _ _) ?_
 rw [List.length_map]
 exact h.few
/-- A log that was opened. -/
theorem wOpen_lok {d : Dk} (hok : d.Ok) (size : Int) {l : Lg} (h : (wOpen d size).l = some l) : LOk 0 l := by
 unfold wOpen at h
 split at h
 ·cases h
 ·split at h
  ·cases h
  ·cases hw : wReadA d [] [] (wnums d) with
   | none => rw [hw] at h; cases h
   | some p =>
    obtain ⟨ss, a, t⟩ := p
    rw [hw] at h
    dsimp only at h
    split at h
    ·split at h
     ·cases h
     ·unfold wOpened at h
      injection h with h
      subst h
      exact ⟨by simp, by simp, by show 1 + 0 ≤ _; decide, by show 0 ≤ _; decide, by show 1 ≤ _; decide⟩
    ·rename_i hse
     split at h
     ·cases h
     ·unfold wOpened at h
      injection h with h
      subst h
      obtain ⟨h1, h2⟩ := wReadA_segs _ _ _ _ _ _ hw
      obtain ⟨h3, h4, h5, h6⟩ := wread_last hok hw hse
      have hl := wnums_len hok
      refine ⟨hse, fun s hs => ?_, ?_, ?_, ?_⟩
      ·rcases h2 s hs with hs | ⟨m, hm, rfl⟩
       ·cases hs
       ·exact wnums_mem hm
      ·show (ss.getLastD ⟨1, 0, 0⟩).frm + (ss.getLastD ⟨1, 0, 0⟩).count ≤ _
       omega
      ·show (ss.getLastD ⟨1, 0, 0⟩).bytes ≤ _
       omega
      ·show ss.length ≤ _
       rw [h1]
       simpa using hl
theorem wOpen_ok {d : Dk} (hok : d.Ok) (size : Int) : (wOpen d size).d.Ok := by
 unfold wOpen
 split
 ·exact hok
 ·split
  ·exact hok
  ·cases wReadA d [] [] (wnums d) with
   | none => exact hok
   | some p =>
    obtain ⟨ss, a, t⟩ := p
    dsimp only
    split
    ·split
     ·exact dMake_ok hok _
     ·exact dMake_ok hok _
    ·split
     ·exact wMend_ok hok _ _
     ·exact wMend_ok hok _ _
theorem wOpen_small {c : Nat} {d : Dk} (h : d.SmallC c) (size : Int) : (wOpen d size).d.SmallC (c + 2) := by
 unfold wOpen
 split
 ·exact h.more (by omega)
 ·split
  ·exact h.more (by omega)
  ·cases wReadA d [] [] (wnums d) with
   | none => exact h.more (by omega)
   | some p =>
    obtain ⟨ss, a, t⟩ := p
    dsimp only
    split
    ·split
     ·exact (h.grow (dMake_grow _ _)).more (by omega)
     ·exact (h.grow (dMake_grow _ _)).more (by omega)
    ·split
     ·exact wMend_small h _ _
     ·exact wMend_small h _ _
end Go.Proofs.YtagghghoimpofaaGreatDoor
