/-
  Layer 16: the walk of read.
-/
import Derived.Test.YtagghghoimpofaaDoorWalRdP
import Derived.WalkMore
namespace Go.Proofs.YtagghghoimpofaaDoor
open Go Go.RowKit Mono
set_option linter.unusedVariables false
set_option linter.unusedSimpArgs false
set_option maxRecDepth 100000
set_option maxHeartbeats 4000000

/-- What read tells. -/
def ReadQ (W0 W : World) (bd bl bm pl : Nat) (d : Dk) (ms : List FilM) (size fails : Nat) (e : Ending) (w' : World) : Prop := match wReadA d [] [] (wnums d) with
  | none => e = .returned (.tuple #[.slice none 0 0, .bool false, .int .i64 160]) ∧ Kb (fun k => k = bl) W w'
  | some (ss, a, torn) => ∃ va v, e = .returned (.tuple #[va, .bool torn, .int .i64 0]) ∧ RdJ W0 W bd bl bm pl d ms size fails ss v a va w'
theorem wnums_take (names : List (List UInt8)) (k : Nat) (s : List UInt8) (h : names[k]? = some s) : ((names.take (k + 1)).map wnum).filter (fun n => decide (0 < n)) = ((names.take k).map wnum).filter (fun n => decide (0 < n)) ++ (if 0 < wnum s then [wnum s] else []) := by
  rw [List.take_add_one, h]
  simp only [Option.toList, List.map_append, List.filter_append, List.map_cons, List.map_nil]
  congr 1
  by_cases hp : 0 < wnum s
  · rw [if_pos hp, List.filter_cons_of_pos (by simpa using hp)]; rfl
  · rw [if_neg hp, List.filter_cons_of_neg (by simpa using hp)]; rfl
theorem wrows_len {d : Dk} (hok : d.Ok) (n : Nat) : (wrows d n).1.length ≤ 1048576 ∧ (wrows d n).2.1 ≤ 1048576 ∧ (dRead d (wname n)).1.length ≤ 1048576 := by
  have hl : (dRead d (wname n)).1.length ≤ 1048576 := by
    unfold dRead
    split
    · exact Nat.zero_le _
    · split
      · exact Nat.zero_le _
      · rename_i f hf
        exact hok.len f (findF_mem hf).1
  have := frows_len (dRead d (wname n)).1
  unfold wrows
  exact ⟨by omega, by omega, hl⟩
theorem wread_any {W0 W : World} {bd bl bm pl : Nat} {d : Dk} {ms : List FilM} {size fails : Nat} (hc : Cx W0 W bd bl bm pl d ms (.slice none 0 0) ⟨[], size, 0, fails⟩) (hok : d.Ok) :
    Calls Tryd.prog 47 #[.pointer (some ⟨bl, 0, none⟩)] W (ReadQ W0 W bd bl bm pl d ms size fails) := by
  obtain ⟨i0, hi, hz0, hz1, hz2⟩ := info_parts infoIn
  have HI := Lib.hid hi
  have HZ0 := Lib.hid hz0
  have HZ1 := Lib.hid hz1
  have HZ2 := Lib.hid hz2
  have HC := Lib.hid hc
  have HOK := Lib.hid hok
  have HNM := Lib.hid (names_any hc.hd hok)
  have HBL := Lib.hid hc.hl.str.lt
  have k1 := hc.hl.str.blk.cell (i := 1) rfl
  clear hc hok hi hz0 hz1 hz2
  go_enter Tryd.func47, Tryd.ntmps47
  go_wp2_with fail
  go_step3
  go_wp2_with fail
  refine HNM.out.mono ?_
  rintro e w1 ⟨vn, rfl, hss, hx1⟩
  obtain ⟨names, hnames⟩ : ∃ l, l = d.fs.map fun f => f.name := ⟨_, rfl⟩
  rw [← hnames] at hss
  have hfew : names.length ≤ 64 := by rw [hnames]; simpa using HOK.out.few
  have HNL := Lib.hid (show ∀ s ∈ names, s.length ≤ 9223372036854775807 by
    rw [hnames]
    intro s hs
    obtain ⟨f, hf, rfl⟩ := List.mem_map.1 hs
    have := HOK.out.names f hf
    unfold dname at this
    simp at this
    omega)
  have HW := Lib.hid (show wnums d = (names.map wnum).filter fun n => decide (0 < n) by rw [hnames, List.map_map]; rfl)
  obtain ⟨A, c, rfl, s1, s2, s3⟩ := hss.at_
  unfold maxLen at s2
  have HS3 := Lib.hid s3
  have HX1 := Lib.hid hx1
  clear hnames hss s3 hx1 HNM k1 s1 s2
  go_wp2_with fail
  go_loopw [5, 22] (fun nv kv wr => ∃ (k : Nat) (ns : List Nat), k ≤ names.length ∧ kv = .int .i64 (k : Int) ∧ ns = ((names.take k).map wnum).filter (fun n => decide (0 < n)) ∧ wr.ownsRow w1.heap.size 3 1 nv ns.length (ns.map iv64) ∧ Ext w1 wr) (fun _ kv _ => names.length - (intOf kv).toNat)
  case atStart => exact ⟨0, [], Nat.zero_le _, rfl, rfl, World.ownsRow_nil _ _ _ _, Ext.refl _⟩
  case round =>
    obtain ⟨k, ns, hk, rfl, hns, hrow, hx⟩ := hrel
    have hnl : ns.length ≤ 64 := by
      rw [hns]
      refine Nat.le_trans (List.length_filter_le _ _) ?_
      simp
      omega
    have HNS := Lib.hid hns
    have HXX := Lib.hid hx
    clear hns hx
    by_cases hlt : k < names.length
    · obtain ⟨b, off, rfl, hb, hcell⟩ := HS3.out (by omega)
      obtain ⟨s, hs⟩ : ∃ s, names[k]? = some s := ⟨_, List.getElem?_eq_getElem hlt⟩
      have kc := (HXX.out.cell (p := ⟨b, off + k, none⟩) hb).trans (hcell k s hs)
      have HNU := Lib.hid (wNumber_any s wr (HNL.out s (List.mem_of_getElem? hs)))
      have HT := Lib.hid (wnums_take names k s hs)
      unfold strV at kc HNU
      clear hcell hb hs
      have hk1 : (k : Int) < (names.length : Int) := by omega
      have hk2 : IntKind.i64.wrap ((k : Int) + 1) = ((k + 1 : Nat) : Int) := by rw [IntWalk.i64_in _ (by omega)]; omega
      generalize wnum s = n at *
      go_wp2_with fail
      refine HNU.out.mono ?_
      rintro e w2 ⟨rfl, rfl⟩
      by_cases hp : 0 < n
      · rw [if_pos hp] at HT
        go_wp2_with (first
          | (at_builtin; refine wpList_append_own _ rfl (.tmp 30) (.tmp 32) 29 rfl w1.heap.size 3 i0 (.int .i64 0) 1 8 Tryd.underlying29 HI.out HZ0.out HZ1.out HZ2.out rfl (by decide) _ _ _ rfl (hrow.alloc _) ⟨wr.heap.size, 0, none⟩ 1 1 [.int .i64 (n : Int)] rfl rfl (cell_one_new _ _ _) (by simp [Value.oneCell']) (by unfold maxLen; omega) (by omega) (by have := HXX.out.size; simp; omega) ?_; intro v' w3 hown' hg3 hnil3; go_frame)
          | go_in)
        go_roundw
        case rel =>
          refine ⟨k + 1, ns ++ [n], by omega, by go_num, ?_, by simpa [iv64] using hown', ?_⟩
          · rw [HT.out, HNS.out]
          · exact grown_ext4 (HXX.out.trans (ext_alloc _ _)) (hrow.alloc _) (Nat.le_refl _) hg3
        case measure => simp [intOf]; omega
      · rw [if_neg hp, List.append_nil] at HT
        obtain rfl : n = 0 := by omega
        go_wp2_with fail
        go_roundw
        case rel => exact ⟨k + 1, ns, by omega, by go_num, by rw [HT.out, HNS.out], hrow, HXX.out⟩
        case measure => simp [intOf]; omega
    · have hns : ns = wnums d := by rw [HNS.out, HW.out, List.take_of_length_le (by omega)]
      have hk1 : ¬ (k : Int) < (names.length : Int) := by omega
      have HWN := Lib.hid hns
      have HJ := Lib.hid (show RdJ W0 W bd bl bm pl d ms size fails [] (.slice none 0 0) [] (.slice none 0 0) wr from
        ⟨HC.out.ext (HX1.out.trans HXX.out), Kb.of_ext (HX1.out.trans HXX.out), fun j h => (by cases h), [], World.ownsRow_nil _ _ _ _, trivial⟩)
      have hsl : ∃ A n c, u5 = .slice A n c := isSl_row hrow
      obtain ⟨A5, n5, c5, rfl⟩ := hsl
      have hn5 : n5 = ns.length := by
        rcases hrow.2 with ⟨h1, h2⟩ | ⟨_, _, _, h1, _⟩
        · injection h1 with _ h1 _; omega
        · injection h1
      subst hn5
      have hrow0 := Ow.sl (e := 3) (base := w1.heap.size) (w := wr) (v := .slice A5 ns.length c5) (xs := ns.map iv64) (by unfold Ow; simpa using hrow)
      have HRW := Lib.hid hrow0
      have HNB := Lib.hid (show ∀ n ∈ ns, n ≤ 999999999999 by
        rw [hns]
        intro n hn
        unfold wnums at hn
        obtain ⟨hn, -⟩ := List.mem_filter.1 hn
        obtain ⟨f, -, rfl⟩ := List.mem_map.1 hn
        exact wnum_lt _)
      have HROW := Lib.hid hrow
      have HXW := Lib.hid (HX1.out.trans HXX.out)
      clear hns hk HNL HS3 hrow0 HX1 HNS HXX HW
      go_wp2_with fail
      go_step3
      go_wp2_with fail
      clear hlt hk1 hfew
      go_loopw [2, 3, 37] (fun av tv kv w => ∃ (k : Nat) (ss : List WSeg) (acc : List (List UInt8)) (v : Value), k ≤ ns.length ∧ kv = .int .i64 (k : Int) ∧ tv = .bool false ∧ ss.length = k ∧ acc.length ≤ k * 1048576 ∧ wReadA d [] [] ns = wReadA d ss acc (ns.drop k) ∧ RdJ W0 W bd bl bm pl d ms size fails ss v acc av w ∧ w.ownsRow w1.heap.size 3 1 (.slice A5 ns.length c5) ns.length (ns.map iv64)) (fun _ _ kv _ => ns.length - (intOf kv).toNat)
      case atStart => exact ⟨0, [], [], .slice none 0 0, Nat.zero_le _, rfl, rfl, rfl, Nat.zero_le _, rfl, HJ.out, HROW.out⟩
      case round =>
        clear HJ HRW HROW hrow
        obtain ⟨k, ss, acc, v, hk, rfl, rfl, hss, hacc, hrd, hj, hrow⟩ := hrel
        have HJ2 := Lib.hid hj
        have HRD := Lib.hid hrd
        have HSS := Lib.hid hss
        have HACC := Lib.hid hacc
        clear hj hrd hss hacc
        by_cases hlt : k < ns.length
        rotate_left
        · have hk1 : ¬ (k : Int) < (ns.length : Int) := by omega
          have hend : wReadA d [] [] (wnums d) = some (ss, acc, false) := by rw [← HWN.out, HRD.out, List.drop_eq_nil_of_le (by omega)]; rfl
          have HEND := Lib.hid hend
          clear hend
          go_wp2_with fail
          go_ret3
          unfold ReadQ
          rw [HEND.out]
          exact ⟨_, v, rfl, HJ2.out⟩
        obtain ⟨n, hn⟩ : ∃ n, ns[k]? = some n := ⟨_, List.getElem?_eq_getElem hlt⟩
        have hrow1 := ow_of_row hrow
        rcases hrow1.form with ⟨hq, -⟩ | ⟨g, cap, hq, -, -, -, -, hcell, -⟩
        · injection hq with _ hq _
          omega
        injection hq with hq hq2 hq3
        clear hq2 hq3
        subst hq
        have kc := hcell k (iv64 n) (by rw [List.getElem?_map, hn]; rfl)
        unfold iv64 at kc
        have hn9 : n ≤ 999999999999 := HNB.out n (List.mem_of_getElem? hn)
        have hk1 : (k : Int) < (ns.length : Int) := by omega
        have HROW := Lib.hid hrow
        have HN := Lib.hid hn
        have HN9 := Lib.hid hn9
        clear hcell hrow hrow1 hn hn9
        go_wp2_with fail
        refine wp_region_mono (by kernel_rfl) (by kernel_rfl) ?_
        refine tele_move rfl (.inl rfl) rfl (isV (.pointer (some ⟨bl, 0, none⟩))) (fun ρ w' h => h) ?_
        refine tele_val rfl (.pointer (some ⟨bl, 0, none⟩)) (fun _ _ _ => rfl) ?_ ?_
        · rintro ρ w' he ⟨h43, -⟩
          have e43 : ρ 43 = (.pointer (some ⟨bl, 0, none⟩)) := h43
          simp [execOp, evR, e43, go_sem]
        refine tele_val rfl (.pointer (some ⟨bl, 1, none⟩)) (fun _ _ _ => rfl) ?_ ?_
        · rintro ρ w' he ⟨h44, -⟩
          have e44 : ρ 44 = (.pointer (some ⟨bl, 0, none⟩)) := h44
          simp [execOp, evR, e44, go_sem]
        refine tele_val rfl (.pointer (some ⟨bd, 0, none⟩)) (fun _ _ _ => rfl) ?_ ?_
        · rintro ρ w' he ⟨h45, -⟩
          have e45 : ρ 45 = (.pointer (some ⟨bl, 1, none⟩)) := h45
          have c := (HJ2.out.cx.hl.ext he).str.blk.cell (i := 1) rfl
          simp [execOp, evR, e45, c, go_sem]
        refine tele_move rfl (.inl rfl) rfl (isV (.int .i64 (n : Int))) (fun ρ w' h => h) ?_
        refine tele_call rfl rfl Tryd.func9 (by kernel_rfl) (isV (.string ⟨(wname (n : Int)).toArray⟩)) (fun _ _ _ => rfl) ?_ ?_
        · rintro ρ w' he ⟨h47, -⟩
          have e47 : ρ 47 = (.int .i64 (n : Int)) := h47
          simp only [evR, List.map_toArray, List.map_cons, List.map_nil, e47]
          refine (wName_any (n : Int) w' (HJ2.out.cx.hT.ext (HJ2.out.cx.hx.trans he))).mono ?_
          rintro e w2 ⟨rfl, hx2⟩
          exact ⟨_, rfl, hx2, rfl⟩
        refine tele_call rfl rfl Tryd.func20 (by kernel_rfl) (isRead W.heap.size (dRead d (wname (n : Int))).1 (dRead d (wname (n : Int))).2) (fun _ _ _ => rfl) ?_ ?_
        · rintro ρ w' he ⟨h46, h48, -⟩
          have e46 : ρ 46 = (.pointer (some ⟨bd, 0, none⟩)) := h46
          have e48 : ρ 48 = (.string ⟨(wname (n : Int)).toArray⟩) := h48
          simp only [evR, List.map_toArray, List.map_cons, List.map_nil, e46, e48]
          refine (read_any (HJ2.out.cx.hd.ext he) HOK.out (wname (n : Int)) (Nat.le_trans (wname_len _) (by decide))).mono ?_
          rintro e w2 ⟨vb, rfl, hob, hx2⟩
          exact ⟨_, rfl, hx2, vb, rfl, OwB.mono hob (Nat.le_trans HJ2.out.kb.size he.size)⟩
        refine tele_move rfl (.inl rfl) rfl (isRead W.heap.size (dRead d (wname (n : Int))).1 (dRead d (wname (n : Int))).2) (fun ρ w' h => h) ?_
        refine tele_any rfl (isOwB W.heap.size (dRead d (wname (n : Int))).1) ?_ ?_
        · rintro ρ w' he hk
          rw [if_pos (show wantedR _ _ _ = true from rfl)]
          obtain ⟨h42, -⟩ := hk
          have e42 : (isRead W.heap.size (dRead d (wname (n : Int))).1 (dRead d (wname (n : Int))).2).rel (ρ 42) w' := h42
          obtain ⟨vb, hv, ho⟩ := e42
          simp [execOp, evR, hv, go_sem, monoUpon]
          exact ⟨Ext.refl _, ho⟩
        refine tele_any rfl (isV (.int .i64 ((dRead d (wname (n : Int))).2 : Int))) ?_ ?_
        · rintro ρ w' he hk
          rw [if_pos (show wantedR _ _ _ = true from rfl)]
          obtain ⟨h42, -⟩ := hk
          have e42 : (isRead W.heap.size (dRead d (wname (n : Int))).1 (dRead d (wname (n : Int))).2).rel (ρ 42) w' := h42
          obtain ⟨vb, hv, ho⟩ := e42
          simp [execOp, evR, hv, go_sem, monoUpon]
          exact ⟨Ext.refl _, rfl⟩
        refine tele_move rfl (.inr rfl) rfl (isOwB W.heap.size (dRead d (wname (n : Int))).1) (fun ρ w' h => h) ?_
        refine tele_move rfl (.inr rfl) rfl (isV (.int .i64 ((dRead d (wname (n : Int))).2 : Int))) (fun ρ w' h => h) ?_
        refine tele_nil ?_
        rintro ρ w' hext ⟨f12, f11, f51, f50, f42, f49, f48, f47, f46, f45, f44, f43, -⟩
        replace f43 : ρ 43 = (.pointer (some ⟨bl, 0, none⟩)) := f43
        replace f44 : ρ 44 = (.pointer (some ⟨bl, 0, none⟩)) := f44
        replace f45 : ρ 45 = (.pointer (some ⟨bl, 1, none⟩)) := f45
        replace f46 : ρ 46 = (.pointer (some ⟨bd, 0, none⟩)) := f46
        replace f47 : ρ 47 = (.int .i64 (n : Int)) := f47
        replace f48 : ρ 48 = (.string ⟨(wname (n : Int)).toArray⟩) := f48
        replace f49 : (isRead W.heap.size (dRead d (wname (n : Int))).1 (dRead d (wname (n : Int))).2).rel (ρ 49) w' := f49
        replace f42 : (isRead W.heap.size (dRead d (wname (n : Int))).1 (dRead d (wname (n : Int))).2).rel (ρ 42) w' := f42
        replace f50 : (isOwB W.heap.size (dRead d (wname (n : Int))).1).rel (ρ 50) w' := f50
        replace f51 : ρ 51 = (.int .i64 ((dRead d (wname (n : Int))).2 : Int)) := f51
        replace f11 : (isOwB W.heap.size (dRead d (wname (n : Int))).1).rel (ρ 11) w' := f11
        replace f12 : ρ 12 = (.int .i64 ((dRead d (wname (n : Int))).2 : Int)) := f12
        simp only [puts, Act.put, List.setIfInBounds_toArray, List.set_cons_zero, List.set_cons_succ]
        have hvb : OwB w' W.heap.size (ρ 11) (dRead d (wname (n : Int))).1 := f11
        rw [f12]
        generalize ρ 11 = vb at *
        clear kc f11 f12 f42 f43 f44 f45 f46 f47 f48 f49 f50 f51
        have hszw := Nat.le_trans HJ2.out.kb.size hext.size
        replace HJ2 := Lib.hid (HJ2.out.ext hext)
        replace HROW := Lib.hid (row_keptT HROW.out (Kb.of_ext (fp := fun _ => False) hext) (fun _ _ _ _ h => h.elim))
        clear hext
        obtain ⟨hr1, hr2, hr3⟩ := wrows_len HOK.out n
        have HFR := Lib.hid (fRowsO_any vb _ w' hvb.bs (by omega))
        obtain ⟨Ab, cb, rfl, -⟩ := hvb.bs.open_
        obtain ⟨rw_, hrw⟩ : ∃ r, r = wrows d n := ⟨_, rfl⟩
        have HRW := Lib.hid hrw
        rw [show frows (dRead d (wname (n : Int))).1 = rw_ from hrw.symm] at HFR
        rw [← hrw] at hr1 hr2
        obtain ⟨lb, hlb⟩ : ∃ n', n' = (dRead d (wname (n : Int))).1.length := ⟨_, rfl⟩
        rw [← hlb] at hr3 HFR
        rw [← hlb]
        have HLB := Lib.hid hlb
        obtain ⟨rows, kb, eb⟩ := rw_
        dsimp only at hr1 hr2 HFR
        clear hrw hlb hvb
        go_wp2_with fail
        refine HFR.out.mono ?_
        rintro e w3 ⟨vr, rfl, hbr, hx3⟩
        replace HJ2 := Lib.hid (HJ2.out.ext hx3)
        replace HROW := Lib.hid (row_keptT HROW.out (Kb.of_ext (fp := fun _ => False) hx3) (fun _ _ _ _ h => h.elim))
        have hbr2 := hbr.mono hszw
        obtain ⟨Ar, cr, rfl⟩ := hbr2.form
        obtain ⟨g', cv', w4, hrun, hk0, ht0, hkb4, hj4⟩ := HJ2.out.seg (by rw [HSS.out]; omega) ⟨n, rows.length, kb⟩ 59
        have k0 := HJ2.out.cx.hl.str.blk.cell (i := 0) rfl
        have hlty := HJ2.out.cx.hl.ltype
        have hbr4 := hbr2.kb hkb4 (fun j C T fz hq hb => by rcases hlty j C T fz hq hb with rfl | rfl <;> exact ⟨by decide, by decide⟩)
        have hrow4 := row_keptT HROW.out hkb4 (fun j C T fz hq hb => by rcases hlty j C T fz hq hb with rfl | rfl <;> decide)
        obtain ⟨A6, n6, c6, w6, hrun6, hkb6, hty6, hj6⟩ := hj4.app HC.out.hx.size HBL.out hbr4 (by have := HACC.out; omega) 27
        have hrow6 := row_keptT hrow4 hkb6 (fun j C T fz hq hb => by rw [hty6 j C T fz hq hb]; decide)
        have HRUN := Lib.hid hrun
        have HRUN6 := Lib.hid hrun6
        have HJ6 := Lib.hid hj6
        have HROW6 := Lib.hid hrow6
        have hwl : IntKind.i64.wrap ((ns.length : Int) - 1) = (ns.length : Int) - 1 := by rw [IntWalk.i64_in _ (by omega)]
        have HWL := Lib.hid hwl
        clear hbr hbr2 hbr4 hrow4 hkb4 hkb6 hty6 hj6 hj4 hrun hrun6 hlty hx3 hszw hrow6 HROW HFR hwl
        by_cases hlast : k + 1 = ns.length
        · have hq : wReadA d [] [] (wnums d) = some (ss ++ [⟨n, rows.length, kb⟩], acc ++ rows, decide (kb < lb)) := by
            rw [← HWN.out, HRD.out, List.drop_eq_getElem_cons hlt, List.drop_eq_nil_of_le (by omega)]
            have hn := HN.out
            rw [List.getElem?_eq_getElem hlt] at hn
            injection hn with hn
            rw [hn, HLB.out]
            unfold wReadA wseg
            rw [← HRW.out]
          have HQ := Lib.hid hq
          have hwl : IntKind.i64.wrap ((ns.length : Int) - 1) = (k : Int) := by rw [HWL.out]; omega
          clear hq hlast
          go_wp2_with (first
            | (at_builtin; refine wpList_append_run rfl (.tmp 63) (.tmp 69) 59 rfl rfl rfl HRUN.out ?_)
            | (at_builtin; refine wpList_append_run rfl (.tmp 74) (.tmp 75) 27 rfl rfl rfl HRUN6.out ?_)
            | go_in)
          rw [Exit.noGoto_ret]
          go_ret3
          unfold ReadQ
          rw [HQ.out]
          exact ⟨_, _, rfl, HJ6.out⟩
        · obtain ⟨m, hm⟩ : ∃ m, ns[k + 1]? = some m := ⟨_, List.getElem?_eq_getElem (by omega)⟩
          have hq : wReadA d [] [] ns = if eb ≠ 0 ∨ m ≠ n + rows.length then none else wReadA d (ss ++ [⟨n, rows.length, kb⟩]) (acc ++ rows) (ns.drop (k + 1)) := by
            have hk2 : k + 1 < ns.length := by omega
            rw [HRD.out, List.drop_eq_getElem_cons hlt, List.drop_eq_getElem_cons hk2]
            have hn := HN.out
            rw [List.getElem?_eq_getElem hlt] at hn
            injection hn with hn
            rw [List.getElem?_eq_getElem hk2] at hm
            injection hm with hm
            rw [hn, hm]
            conv => lhs; unfold wReadA
            unfold wseg
            rw [← HRW.out]
          have HQ := Lib.hid hq
          obtain ⟨q, hqd⟩ : ∃ q, q = (ns.length : Int) - 1 := ⟨_, rfl⟩
          have hkq : ¬ (k : Int) = q := by omega
          have hwl : IntKind.i64.wrap ((ns.length : Int) - 1) = q := by rw [HWL.out, hqd]
          rcases (ow_of_row HROW6.out).form with ⟨hq, -⟩ | ⟨g6, cap, hq, -, -, -, -, hcell, -⟩
          · injection hq with hq _ _
            cases hq
          injection hq with hq hq2 hq3
          clear hq2 hq3
          injection hq with hq
          injection hq with hq _ _
          subst hq
          obtain ⟨k2, hk2⟩ : ∃ k2, k2 = k + 1 := ⟨_, rfl⟩
          have kc2 := hcell k2 (iv64 m) (by rw [List.getElem?_map, hk2, hm]; rfl)
          unfold iv64 at kc2
          have hm9 : m ≤ 999999999999 := HNB.out m (List.mem_of_getElem? hm)
          have hk2w : IntKind.i64.wrap ((k : Int) + 1) = (k2 : Int) := by rw [IntWalk.i64_in _ (by omega)]; omega
          have hk2l : (k2 : Int) < (ns.length : Int) := by omega
          have hk20 : ¬ (k2 : Int) < 0 := by omega
          obtain ⟨s, hs⟩ : ∃ s, s = n + rows.length := ⟨_, rfl⟩
          have hsw : IntKind.i64.wrap ((n : Int) + (rows.length : Int)) = (s : Int) := by rw [IntWalk.i64_in _ (by have := HN9.out; omega)]; omega
          rw [← hs] at HQ
          have HK2 := Lib.hid hk2
          have HWNN := Lib.hid HWN.out
          have HLT := Lib.hid (show k2 ≤ ns.length by omega)
          have HKL := Lib.hid (show k + 1 = k2 by omega)
          clear hm hlast hqd hcell hm9 hs hk2
          by_cases he : eb = 0
          rotate_left
          · have he1 : ¬ (eb : Int) = 0 := by omega
            rw [if_pos (.inl he)] at HQ
            clear he
            go_wp2_with (first
              | (at_builtin; refine wpList_append_run rfl (.tmp 63) (.tmp 69) 59 rfl rfl rfl HRUN.out ?_)
              | (at_builtin; refine wpList_append_run rfl (.tmp 74) (.tmp 75) 27 rfl rfl rfl HRUN6.out ?_)
              | go_in)
            rw [Exit.noGoto_ret]
            go_ret3
            unfold ReadQ
            rw [← HWN.out, HQ.out]
            exact ⟨rfl, HJ6.out.kb⟩
          subst he
          by_cases hms : m = s
          rotate_left
          · have hms1 : ¬ (m : Int) = (s : Int) := by omega
            rw [if_pos (.inr hms)] at HQ
            clear hms
            go_wp2_with (first
              | (at_builtin; refine wpList_append_run rfl (.tmp 63) (.tmp 69) 59 rfl rfl rfl HRUN.out ?_)
              | (at_builtin; refine wpList_append_run rfl (.tmp 74) (.tmp 75) 27 rfl rfl rfl HRUN6.out ?_)
              | go_in)
            rw [Exit.noGoto_ret]
            go_ret3
            unfold ReadQ
            rw [← HWN.out, HQ.out]
            exact ⟨rfl, HJ6.out.kb⟩
          · subst hms
            rw [if_neg (by simp)] at HQ
            go_wp2_with (first
              | (at_builtin; refine wpList_append_run rfl (.tmp 63) (.tmp 69) 59 rfl rfl rfl HRUN.out ?_)
              | (at_builtin; refine wpList_append_run rfl (.tmp 74) (.tmp 75) 27 rfl rfl rfl HRUN6.out ?_)
              | go_in)
            go_roundw
            case rel => exact ⟨k2, _, _, _, HLT.out, rfl, rfl, by rw [List.length_append, HSS.out, List.length_singleton, HKL.out], by rw [List.length_append, ← HKL.out]; have := HACC.out; omega, by rw [HQ.out, HKL.out], HJ6.out, HROW6.out⟩
            case measure => have := HKL.out; simp [intOf]; omega
end Go.Proofs.YtagghghoimpofaaDoor
