/-
  The walk of StampBack.
-/
import Derived.Test.YtnjnbjcibdeihaaDoorStBackPlain
namespace Go.Proofs.YtnjnbjcibdeihaaDoor
open Go Go.RowKit Mono Num
set_option linter.unusedVariables false
set_option linter.unusedSimpArgs false

set_option maxHeartbeats 8000000 in
theorem stampBack_walk (a b c d : Int) (v : Value) (l : List UInt8) (w : World) (hv : Bs w v l) (hT : Tb w) (hE : Es w) :
    Calls Tryd.prog 8 #[stV a b, stV c d, v] w fun e w' => e = .returned (.bool true) ∧ Ext w w' := by
  have HL := Lib.hid (fun w => lives_any w)
  have hV := hv
  obtain ⟨A, z, rfl, h1, h2, h3, h4⟩ := hv.open_
  unfold maxLen at h2
  clear h4
  by_cases hl : 1000 < l.length
  · unfold stV
    go_enter Tryd.func8, Tryd.ntmps8
    set_option maxRecDepth 10000 in
    go_wp2_with fail
    refine (HL.out _).mono ?_
    rintro e w' ⟨rfl, he⟩
    go_wp2_with fail
    go_ret
    exact ⟨rfl, Ext.trans (Ext.trans (ext_alloc _ _) (ext_alloc _ _)) he⟩
  · have HP := Lib.hid (fun w => stPut_any (.slice none 0 0) [] a b w (Bs.nil_ w) (by simp))
    have HG := Lib.hid (fun w => stGood_any a b w)
    have HT := Lib.hid (fun w hw => stText_any a b w hw)
    have HQ := Lib.hid (fun w => stPut_any (.slice none 0 0) [] c d w (Bs.nil_ w) (by simp))
    have HS := Lib.hid (fun w => stLess_any a b c d w)
    unfold sput at HP HQ
    simp only [List.nil_append] at HP HQ
    cases hg : sgood a b
    · have hc0 := scode_bad hg
      have ht0 := stext_bad hg
      have hn0 := nput_out (n := -1) (.inl (by decide))
      rw [hc0, hn0] at HP
      rw [ht0] at HT
      rw [hg] at HG
      clear hc0 ht0 hn0 hg HQ HS
      unfold stV strV at *
      go_enter Tryd.func8, Tryd.ntmps8
      set_option maxRecDepth 10000 in
      go_wp2_with fail
      have hx : Ext w ((w.alloc (.cells #[.int .i64 a, .int .i64 b] 23)).alloc (.cells #[.int .i64 c, .int .i64 d] 23)) := Ext.trans (ext_alloc _ _) (ext_alloc _ _)
      have ba := (Blk.new w #[.int .i64 a, .int .i64 b] 23).ext (ext_alloc _ (.cells #[.int .i64 c, .int .i64 d] 23))
      have bb := Blk.new (w.alloc (.cells #[.int .i64 a, .int .i64 b] 23)) #[.int .i64 c, .int .i64 d] 23
      simp only [World.size_alloc] at bb
      generalize (w.alloc (.cells #[.int .i64 a, .int .i64 b] 23)).alloc (.cells #[.int .i64 c, .int .i64 d] 23) = W0 at *
      have bac0 := ba.cell (i := 0) rfl
      have bac1 := ba.cell (i := 1) rfl
      refine (HP.out _).mono ?_
      rintro e w1 ⟨r, rfl, hr, x1⟩
      obtain ⟨A1, c1, rfl, _, _, _, _⟩ := hr.bs.open_
      clear bac0 bac1
      replace ba := ba.ext x1
      replace bb := bb.ext x1
      replace hx := Ext.trans hx x1
      clear x1
      have bac0 := ba.cell (i := 0) rfl
      have bac1 := ba.cell (i := 1) rfl
      set_option maxRecDepth 10000 in
      go_wp2_with fail
      refine (HG.out _).mono ?_
      rintro e w2 ⟨rfl, x1⟩
      clear bac0 bac1
      replace ba := ba.ext x1
      replace bb := bb.ext x1
      replace hx := Ext.trans hx x1
      clear x1
      have bac0 := ba.cell (i := 0) rfl
      have bac1 := ba.cell (i := 1) rfl
      set_option maxRecDepth 10000 in
      go_wp2_with fail
      refine (HT.out _ (hT.ext hx)).mono ?_
      rintro e w3 ⟨rfl, x1⟩
      replace hx := Ext.trans hx x1
      clear x1
      set_option maxRecDepth 10000 in
      go_wp2_with fail
      refine (HL.out _).mono ?_
      rintro e w4 ⟨rfl, x1⟩
      go_wp2_with fail
      go_ret
      exact ⟨rfl, Ext.trans hx x1⟩
    · obtain ⟨m, hm, hm1, hback⟩ := code_nat hg
      have hord := back_order (c := c) (d := d) hg
      have HR := Lib.hid (fun r hr => sread_back (a := a) (b := b) (r := r) hg hr)
      have htl : (stext a b).length ≤ 1000 := by
        rcases sgood_iff.1 hg with ⟨rfl, rfl⟩ | hg'
        · rw [stext_zero]; decide
        · have := (stext_len hg').2; omega
      rw [hg] at HG
      rw [hm] at HP hord
      have hL8 : (nput (m : Int)).length ≤ 8 := by rw [nput_length]; exact nsize_le (m : Int)
      have HBK := Lib.hid hback
      have HOO := Lib.hid hord
      clear hback hord hg hm
      generalize nput (m : Int) = L at *
      generalize nput (scode c d) = M at *
      have HRD := Lib.hid (fun w h1 h2 => stRead_any (stext a b) w htl h1 h2)
      clear htl
      generalize stext a b = tx at *
      generalize sless a b c d = sl at *
      unfold stV at *
      unfold strV at HT HRD
      go_enter Tryd.func8, Tryd.ntmps8
      set_option maxRecDepth 10000 in
      go_wp2_with fail
      have hx : Ext w ((w.alloc (.cells #[.int .i64 a, .int .i64 b] 23)).alloc (.cells #[.int .i64 c, .int .i64 d] 23)) := Ext.trans (ext_alloc _ _) (ext_alloc _ _)
      have ba := (Blk.new w #[.int .i64 a, .int .i64 b] 23).ext (ext_alloc _ (.cells #[.int .i64 c, .int .i64 d] 23))
      have bb := Blk.new (w.alloc (.cells #[.int .i64 a, .int .i64 b] 23)) #[.int .i64 c, .int .i64 d] 23
      simp only [World.size_alloc] at bb
      generalize (w.alloc (.cells #[.int .i64 a, .int .i64 b] 23)).alloc (.cells #[.int .i64 c, .int .i64 d] 23) = W0 at *
      have bac0 := ba.cell (i := 0) rfl
      have bac1 := ba.cell (i := 1) rfl
      refine (HP.out _).mono ?_
      rintro e w1 ⟨r, rfl, hr, x1⟩
      have hX := hr.bs
      obtain ⟨A1, c1, rfl, g1, g2, _, _⟩ := hX.open_
      clear bac0 bac1 hr
      replace hV := (hV.ext hx).ext x1
      replace ba := ba.ext x1
      replace bb := bb.ext x1
      replace hx := Ext.trans hx x1
      clear x1
      have bac0 := ba.cell (i := 0) rfl
      have bac1 := ba.cell (i := 1) rfl
      set_option maxRecDepth 10000 in
      go_wp2_with fail
      refine (HG.out _).mono ?_
      rintro e w2 ⟨rfl, x1⟩
      clear bac0 bac1
      replace hV := hV.ext x1
      replace ba := ba.ext x1
      replace bb := bb.ext x1
      replace hX := hX.ext x1
      replace hx := Ext.trans hx x1
      clear x1
      have bac0 := ba.cell (i := 0) rfl
      have bac1 := ba.cell (i := 1) rfl
      unfold maxLen at g2
      set_option maxRecDepth 10000 in
      go_wp2_with (first
        | (at_builtin
           refine wpList_append_bs _ rfl (.tmp 35) (.tmp 36) rfl (OwB.empty_ w2 (Nat.le_refl _)) (hX.ext (ext_alloc _ _)) rfl rfl ?_ ?_ ?_
           · simp; omega
           · simp
           intro v2 w3 hown2 hg2 hat2
           have hb2 : Below w2.heap.size w2 w3 := Below.growB (ext_alloc w2 _) (OwB.empty_ w2 (Nat.le_refl _)) hg2 (Nat.le_refl _) (by simp)
           have hz2 := hb2.size)
        | (at_builtin
           refine wpList_append_bs _ rfl (.tmp 37) (.tmp 38) rfl hown2 (hV.ext hb2) rfl rfl ?_ ?_ ?_
           · simp; omega
           · exact hz2
           intro v3 w4 hown3 hg3 hat3
           have hb3 : Below w2.heap.size w2 w4 := Below.growB hb2 hown2 hg3 (Nat.le_refl _) hz2))
      rw [List.nil_append] at hown3
      clear hown2 hg2 hg3 hat2 hat3 bac0 bac1
      have hG := stGet_any v3 _ w4 hown3.bs
      rw [HBK.out l] at hG
      unfold stV at hG
      refine hG.mono ?_
      rintro e w5 ⟨rfl, x5⟩
      clear hG hown3
      replace hb3 := Ext.trans hb3 x5
      clear x5 hb2 hz2
      replace ba := ba.ext hb3
      replace bb := bb.ext hb3
      replace hX := hX.ext hb3
      replace hx := Ext.trans hx hb3
      clear hb3
      have b8 := Blk.new w5 #[.int .i64 a, .int .i64 b] 23
      have x1 := ext_alloc w5 (.cells #[.int .i64 a, .int .i64 b] 23)
      replace ba := ba.ext x1
      replace bb := bb.ext x1
      replace hX := hX.ext x1
      replace hx := Ext.trans hx x1
      clear x1
      have bac0 := ba.cell (i := 0) rfl
      have bac1 := ba.cell (i := 1) rfl
      set_option maxRecDepth 10000 in
      go_wp2_with fail
      refine (HT.out _ (hT.ext hx)).mono ?_
      rintro e w6 ⟨rfl, x1⟩
      clear bac0 bac1
      replace ba := ba.ext x1
      replace bb := bb.ext x1
      replace hX := hX.ext x1
      replace b8 := b8.ext x1
      replace hx := Ext.trans hx x1
      clear x1
      have bac0 := ba.cell (i := 0) rfl
      have bac1 := ba.cell (i := 1) rfl
      set_option maxRecDepth 10000 in
      go_wp2_with fail
      refine (HRD.out _ (hT.ext hx) (hE.ext hx)).mono ?_
      rintro e w7 ⟨r, rfl, hr, x1⟩
      obtain rfl := HR.out r hr
      clear hr bac0 bac1
      dsimp only
      replace ba := ba.ext x1
      replace bb := bb.ext x1
      replace hX := hX.ext x1
      replace b8 := b8.ext x1
      replace hx := Ext.trans hx x1
      clear x1
      have b11 := Blk.new w7 #[.int .i64 a, .int .i64 b] 23
      have x1 := ext_alloc w7 (.cells #[.int .i64 a, .int .i64 b] 23)
      replace ba := ba.ext x1
      replace bb := bb.ext x1
      replace hX := hX.ext x1
      replace b8 := b8.ext x1
      replace hx := Ext.trans hx x1
      clear x1
      have bac0 := ba.cell (i := 0) rfl
      have bac1 := ba.cell (i := 1) rfl
      have b8c0 := b8.cell (i := 0) rfl
      have b8c1 := b8.cell (i := 1) rfl
      have b11c0 := b11.cell (i := 0) rfl
      have b11c1 := b11.cell (i := 1) rfl
      have bbc0 := bb.cell (i := 0) rfl
      have bbc1 := bb.cell (i := 1) rfl
      set_option maxRecDepth 10000 in
      go_wp2_with fail
      refine (HQ.out _).mono ?_
      rintro e w8 ⟨r, rfl, hr, x1⟩
      have hY := hr.bs
      obtain ⟨A2, c2, rfl, _, _, _, _⟩ := hY.open_
      clear hr bac0 bac1 b8c0 b8c1 b11c0 b11c1 bbc0 bbc1
      replace ba := ba.ext x1
      replace bb := bb.ext x1
      replace hX := hX.ext x1
      replace hx := Ext.trans hx x1
      clear x1
      by_cases hlen : L.length = M.length
      · have HO := Lib.hid (HOO.out hlen)
        have HLEN := Lib.hid (show L.length = M.length from hlen)
        clear hlen
        set_option maxRecDepth 10000 in
        go_wp2_with fail
        refine wp_region_mono (by kernel_rfl) (by kernel_rfl) ?_
        refine tele_move rfl (.inl rfl) rfl (isV (.slice A1 L.length c1)) (fun ρ w' h => h) ?_
        refine tele_val rfl (.int .i64 ((L.length : Nat) : Int)) (fun _ _ _ => rfl) ?_ ?_
        · rintro ρ w' he ⟨h74, -⟩
          have e74 : ρ 74 = (.slice A1 L.length c1) := h74
          simp [execOp, evR, e74, go_sem]
        refine tele_move rfl (.inl rfl) rfl (isV (.slice A2 M.length c2)) (fun ρ w' h => h) ?_
        refine tele_val rfl (.int .i64 ((M.length : Nat) : Int)) (fun _ _ _ => rfl) ?_ ?_
        · rintro ρ w' he ⟨h76, -⟩
          have e76 : ρ 76 = (.slice A2 M.length c2) := h76
          simp [execOp, evR, e76, go_sem]
        refine tele_val rfl (.bool true) (fun _ _ _ => rfl) ?_ ?_
        · rintro ρ w' he ⟨h75, h77, -⟩
          have e75 : ρ 75 = (.int .i64 ((L.length : Nat) : Int)) := h75
          have e77 : ρ 77 = (.int .i64 ((M.length : Nat) : Int)) := h77
          simp [execOp, evR, e75, e77, HLEN.out, go_sem]
        refine tele_move rfl (.inl rfl) rfl (isV (.bool true)) (fun ρ w' h => h) ?_
        refine tele_val rfl (.agg #[.int .i64 a, .int .i64 b]) (fun ρ w' hk => by obtain ⟨_, hg, -⟩ := hk; have eg : ρ 79 = (.bool true) := hg; simp [wantedR, Region.wanted, asBoolR, eg]) ?_ ?_
        · rintro ρ w' he ⟨h3, -⟩
          have e3 : ρ 3 = (.pointer (some ⟨w.heap.size, 0, none⟩)) := h3
          have c1 := (ba.ext he).cell (i := 0) rfl
          have c2 := (ba.ext he).cell (i := 1) rfl
          simp [execOp, evR, e3, c1, c2, go_sem]
        refine tele_val rfl (.agg #[.int .i64 c, .int .i64 d]) (fun ρ w' hk => by obtain ⟨_, hg, -⟩ := hk; have eg : ρ 79 = (.bool true) := hg; simp [wantedR, Region.wanted, asBoolR, eg]) ?_ ?_
        · rintro ρ w' he ⟨h4, -⟩
          have e4 : ρ 4 = (.pointer (some ⟨(w.heap.size + 1), 0, none⟩)) := h4
          have c1 := (bb.ext he).cell (i := 0) rfl
          have c2 := (bb.ext he).cell (i := 1) rfl
          simp [execOp, evR, e4, c1, c2, go_sem]
        refine tele_call rfl rfl Tryd.func13 (by kernel_rfl) (isV (.bool sl)) (fun ρ w' hk => by obtain ⟨_, _, hg, -⟩ := hk; have eg : ρ 79 = (.bool true) := hg; simp [wantedR, Region.wanted, asBoolR, eg]) ?_ ?_
        · rintro ρ w' he ⟨h80, h81, -⟩
          have e80 : ρ 80 = (.agg #[.int .i64 a, .int .i64 b]) := h80
          have e81 : ρ 81 = (.agg #[.int .i64 c, .int .i64 d]) := h81
          simp only [evR, List.map_toArray, List.map_cons, List.map_nil, e80, e81]
          refine (HS.out _).mono ?_
          rintro e w'' ⟨rfl, he⟩
          exact ⟨_, rfl, he, rfl⟩
        refine tele_val rfl ((.slice A1 L.length c1)) (fun ρ w' hk => by obtain ⟨_, hg, -⟩ := hk; have eg : ρ 79 = (.bool true) := hg; simp [wantedR, Region.wanted, asBoolR, eg]) ?_ ?_
        · rintro ρ w' he ⟨h7, -⟩
          have e7 : ρ 7 = (.slice A1 L.length c1) := h7
          simp [execOp, evR, e7]
        refine tele_val rfl (strV (L)) (fun ρ w' hk => by obtain ⟨_, hg, -⟩ := hk; have eg : ρ 79 = (.bool true) := hg; simp [wantedR, Region.wanted, asBoolR, eg]) ?_ ?_
        · rintro ρ w' he ⟨h83, -⟩
          have e83 : ρ 83 = (.slice A1 L.length c1) := h83
          have c := (hX.ext he).str_ (P := Tryd.prog) 38 9 5 Tryd.underlying38 Tryd.underlying5 Tryd.underlying9
          simp [execOp, evR, e83, c]
        refine tele_val rfl ((.slice A2 M.length c2)) (fun ρ w' hk => by obtain ⟨_, hg, -⟩ := hk; have eg : ρ 79 = (.bool true) := hg; simp [wantedR, Region.wanted, asBoolR, eg]) ?_ ?_
        · rintro ρ w' he ⟨h13, -⟩
          have e13 : ρ 13 = (.slice A2 M.length c2) := h13
          simp [execOp, evR, e13]
        refine tele_val rfl (strV (M)) (fun ρ w' hk => by obtain ⟨_, hg, -⟩ := hk; have eg : ρ 79 = (.bool true) := hg; simp [wantedR, Region.wanted, asBoolR, eg]) ?_ ?_
        · rintro ρ w' he ⟨h85, -⟩
          have e85 : ρ 85 = (.slice A2 M.length c2) := h85
          have c := (hY.ext he).str_ (P := Tryd.prog) 38 9 5 Tryd.underlying38 Tryd.underlying5 Tryd.underlying9
          simp [execOp, evR, e85, c]
        refine tele_val rfl (.bool sl) (fun ρ w' hk => by obtain ⟨_, _, hg, -⟩ := hk; have eg : ρ 79 = (.bool true) := hg; simp [wantedR, Region.wanted, asBoolR, eg]) ?_ ?_
        · rintro ρ w' he ⟨h84, h86, -⟩
          have e84 : ρ 84 = (strV (L)) := h84
          have e86 : ρ 86 = (strV (M)) := h86
          unfold strV at e84 e86
          simp [execOp, evR, e84, e86, HO.out, go_sem]
        refine tele_val rfl (.bool false) (fun ρ w' hk => by obtain ⟨_, _, hg, -⟩ := hk; have eg : ρ 79 = (.bool true) := hg; simp [wantedR, Region.wanted, asBoolR, eg]) ?_ ?_
        · rintro ρ w' he ⟨h82, h87, -⟩
          have e82 : ρ 82 = (.bool sl) := h82
          have e87 : ρ 87 = (.bool sl) := h87
          simp [execOp, evR, e82, e87, go_sem]
        refine tele_val rfl (.bool false) (fun _ _ _ => rfl) ?_ ?_
        · rintro ρ w' he ⟨h79, h88, -⟩
          have e79 : ρ 79 = (.bool true) := h79
          have e88 : ρ 88 = (.bool false) := h88
          simp [execOp, evR, e79, e88, go_sem]
        refine tele_nil ?_
        rintro ρ w' hext ⟨f89, f88, f87, f86, f85, f84, f83, f82, f81, f80, f79, f78, f77, f76, f75, f74, -⟩
        replace f74 : ρ 74 = (.slice A1 L.length c1) := f74
        replace f75 : ρ 75 = (.int .i64 ((L.length : Nat) : Int)) := f75
        replace f76 : ρ 76 = (.slice A2 M.length c2) := f76
        replace f77 : ρ 77 = (.int .i64 ((M.length : Nat) : Int)) := f77
        replace f78 : ρ 78 = (.bool true) := f78
        replace f79 : ρ 79 = (.bool true) := f79
        replace f80 : ρ 80 = (.agg #[.int .i64 a, .int .i64 b]) := f80
        replace f81 : ρ 81 = (.agg #[.int .i64 c, .int .i64 d]) := f81
        replace f82 : ρ 82 = (.bool sl) := f82
        replace f83 : ρ 83 = (.slice A1 L.length c1) := f83
        replace f84 : ρ 84 = (strV (L)) := f84
        replace f85 : ρ 85 = (.slice A2 M.length c2) := f85
        replace f86 : ρ 86 = (strV (M)) := f86
        replace f87 : ρ 87 = (.bool sl) := f87
        replace f88 : ρ 88 = (.bool false) := f88
        replace f89 : ρ 89 = (.bool false) := f89
        simp only [puts, Act.put, List.setIfInBounds_toArray, List.set_cons_zero, List.set_cons_succ]
        rw [f89]
        set_option maxRecDepth 10000 in
        go_wp2_with fail
        refine (HL.out _).mono ?_
        rintro e w9 ⟨rfl, x1⟩
        go_wp2_with fail
        go_ret
        exact ⟨rfl, Ext.trans hx (Ext.trans hext x1)⟩
      · have HLEN := Lib.hid (show ¬ L.length = M.length from hlen)
        clear hlen
        set_option maxRecDepth 10000 in
        go_wp2_with fail
        refine wp_region_mono (by kernel_rfl) (by kernel_rfl) ?_
        refine tele_move rfl (.inl rfl) rfl (isV (.slice A1 L.length c1)) (fun ρ w' h => h) ?_
        refine tele_val rfl (.int .i64 ((L.length : Nat) : Int)) (fun _ _ _ => rfl) ?_ ?_
        · rintro ρ w' he ⟨h74, -⟩
          have e74 : ρ 74 = (.slice A1 L.length c1) := h74
          simp [execOp, evR, e74, go_sem]
        refine tele_move rfl (.inl rfl) rfl (isV (.slice A2 M.length c2)) (fun ρ w' h => h) ?_
        refine tele_val rfl (.int .i64 ((M.length : Nat) : Int)) (fun _ _ _ => rfl) ?_ ?_
        · rintro ρ w' he ⟨h76, -⟩
          have e76 : ρ 76 = (.slice A2 M.length c2) := h76
          simp [execOp, evR, e76, go_sem]
        refine tele_val rfl (.bool false) (fun _ _ _ => rfl) ?_ ?_
        · rintro ρ w' he ⟨h75, h77, -⟩
          have e75 : ρ 75 = (.int .i64 ((L.length : Nat) : Int)) := h75
          have e77 : ρ 77 = (.int .i64 ((M.length : Nat) : Int)) := h77
          simp [execOp, evR, e75, e77, go_sem]
          have := HLEN.out
          omega
        refine tele_move rfl (.inl rfl) rfl (isV (.bool false)) (fun ρ w' h => h) ?_
        refine tele_pass rfl (fun ρ w' hk => by obtain ⟨_, hg, -⟩ := hk; have eg : ρ 79 = (.bool false) := hg; simp [wantedR, Region.wanted, asBoolR, eg]) ?_
        refine tele_pass rfl (fun ρ w' hk => by obtain ⟨_, hg, -⟩ := hk; have eg : ρ 79 = (.bool false) := hg; simp [wantedR, Region.wanted, asBoolR, eg]) ?_
        refine tele_pass rfl (fun ρ w' hk => by obtain ⟨_, _, hg, -⟩ := hk; have eg : ρ 79 = (.bool false) := hg; simp [wantedR, Region.wanted, asBoolR, eg]) ?_
        refine tele_pass rfl (fun ρ w' hk => by obtain ⟨_, hg, -⟩ := hk; have eg : ρ 79 = (.bool false) := hg; simp [wantedR, Region.wanted, asBoolR, eg]) ?_
        refine tele_pass rfl (fun ρ w' hk => by obtain ⟨_, hg, -⟩ := hk; have eg : ρ 79 = (.bool false) := hg; simp [wantedR, Region.wanted, asBoolR, eg]) ?_
        refine tele_pass rfl (fun ρ w' hk => by obtain ⟨_, hg, -⟩ := hk; have eg : ρ 79 = (.bool false) := hg; simp [wantedR, Region.wanted, asBoolR, eg]) ?_
        refine tele_pass rfl (fun ρ w' hk => by obtain ⟨_, hg, -⟩ := hk; have eg : ρ 79 = (.bool false) := hg; simp [wantedR, Region.wanted, asBoolR, eg]) ?_
        refine tele_pass rfl (fun ρ w' hk => by obtain ⟨_, _, hg, -⟩ := hk; have eg : ρ 79 = (.bool false) := hg; simp [wantedR, Region.wanted, asBoolR, eg]) ?_
        refine tele_pass rfl (fun ρ w' hk => by obtain ⟨_, _, hg, -⟩ := hk; have eg : ρ 79 = (.bool false) := hg; simp [wantedR, Region.wanted, asBoolR, eg]) ?_
        refine tele_val rfl (.bool false) (fun _ _ _ => rfl) ?_ ?_
        · rintro ρ w' he ⟨h79, h88, -⟩
          have e79 : ρ 79 = (.bool false) := h79
          have e88 : ρ 88 = undef := h88
          simp [execOp, evR, e79, e88, go_sem]
        refine tele_nil ?_
        rintro ρ w' hext ⟨f89, f88, f87, f86, f85, f84, f83, f82, f81, f80, f79, f78, f77, f76, f75, f74, -⟩
        replace f74 : ρ 74 = (.slice A1 L.length c1) := f74
        replace f75 : ρ 75 = (.int .i64 ((L.length : Nat) : Int)) := f75
        replace f76 : ρ 76 = (.slice A2 M.length c2) := f76
        replace f77 : ρ 77 = (.int .i64 ((M.length : Nat) : Int)) := f77
        replace f78 : ρ 78 = (.bool false) := f78
        replace f79 : ρ 79 = (.bool false) := f79
        replace f80 : ρ 80 = undef := f80
        replace f81 : ρ 81 = undef := f81
        replace f82 : ρ 82 = undef := f82
        replace f83 : ρ 83 = undef := f83
        replace f84 : ρ 84 = undef := f84
        replace f85 : ρ 85 = undef := f85
        replace f86 : ρ 86 = undef := f86
        replace f87 : ρ 87 = undef := f87
        replace f88 : ρ 88 = undef := f88
        replace f89 : ρ 89 = (.bool false) := f89
        simp only [puts, Act.put, List.setIfInBounds_toArray, List.set_cons_zero, List.set_cons_succ]
        rw [f89]
        set_option maxRecDepth 10000 in
        go_wp2_with fail
        refine (HL.out _).mono ?_
        rintro e w9 ⟨rfl, x1⟩
        go_wp2_with fail
        go_ret
        exact ⟨rfl, Ext.trans hx (Ext.trans hext x1)⟩
end Go.Proofs.YtnjnbjcibdeihaaDoor
