/-
  The walk of ChangeCanon.
-/
import Derived.Test.YtocdifjdeifclaaRCanWalk
import Derived.Test.YtocdifjdeifclaaCanLight
namespace Go.Proofs.Ytocdifjdeifclaa
open Go Go.RowKit Mono Num
set_option linter.unusedVariables false
set_option linter.unusedSimpArgs false
set_option maxRecDepth 100000

theorem ws_cells {W : World} {n cx bx ox : Nat} {l : List Wr} (h : Ws W (.slice (some ⟨bx, ox, none⟩) n cx) l) {i : Nat} {x : Wr} (hx : l[i]? = some x) : W.cell? ⟨bx, ox + i * 4, none⟩ = some (strV x.key) ∧ W.cell? ⟨bx, ox + i * 4 + 1, none⟩ = some (.int .i64 x.group) := by
  obtain ⟨⟨A, c, hv, _, _, _, h4⟩, _⟩ := h
  obtain ⟨b, off, hA, hb, hc⟩ := h4 (by have := (List.getElem?_eq_some_iff.1 hx).1; omega)
  injection hv with hv _ _
  rw [hA] at hv
  injection hv with hv
  injection hv with e1 e2 _
  subst e1 e2
  exact ⟨(hc i x hx).1, (hc i x hx).2.1⟩
theorem wah_parts {ka kb : List UInt8} {ga gb : Int} {d1 d2 : Bool} {z1 z2 : List UInt8} (h : wahead ⟨ka, ga, d1, z1⟩ ⟨kb, gb, d2, z2⟩ = true) : Op.bytesLess kb ka = false ∧ (ka = kb → ga < gb) := by
  have h2 : wahead ⟨kb, gb, d2, z2⟩ ⟨ka, ga, d1, z1⟩ = false := by
    cases h3 : wahead ⟨kb, gb, d2, z2⟩ ⟨ka, ga, d1, z1⟩ with
    | false => rfl
    | true => have := wah_trans h h3; rw [wah_irrefl] at this; exact this.symm
  unfold wahead at h h2
  simp only [Bool.or_eq_false_iff, Bool.or_eq_true, Bool.and_eq_true, beq_iff_eq, decide_eq_true_eq] at h h2
  refine ⟨h2.1, fun e => ?_⟩
  rcases h with h | h
  · rw [e, bytesLess_irrefl] at h; exact absurd h (by simp)
  · exact h.2
theorem ws_slice {W : World} {v : Value} {l : List Wr} (h : Ws W v l) : ∃ A c, v = .slice A l.length c := by
  obtain ⟨⟨A, c, hv, _⟩, _⟩ := h
  exact ⟨A, c, hv⟩

set_option maxHeartbeats 8000000 in
theorem changeCanon_walk (v : Value) (ws : List Wr) (w : World) (h : Ws w v ws) :
    Calls Try.prog 7 #[v] w fun e w' => e = .returned (.bool true) ∧ Ext w w' := by
  have HL := Lib.hid (fun w => lives_any w)
  obtain ⟨i0, hi0, hz0, hz1, hz2⟩ := info_parts infoWrK
  have HI0 := Lib.hid hi0
  have HZ0 := Lib.hid hz0
  have HZ1 := Lib.hid hz1
  have HZ2 := Lib.hid hz2
  obtain ⟨A, c, rfl⟩ := ws_slice h
  have HWS := Lib.hid h
  have HLT := Lib.hid (lightC_any (.slice none 0 0) [] (.slice A ws.length c) ws w (Gs.nil_ w) h)
  clear h hi0 hz0 hz1 hz2
  go_enter Try.func7, Try.ntmps7
  go_wp2_with fail
  refine HLT.out.mono ?_
  rintro e w1 ⟨⟨q, rfl, hq⟩, hx1⟩
  have HX1 := Lib.hid hx1
  clear HLT hx1
  cases q
  · clear hq
    go_wp2_with fail
    refine (HL.out w1).mono ?_
    rintro e w2 ⟨rfl, hx2⟩
    go_wp2_with fail
    go_ret
    exact ⟨rfl, HX1.out.trans hx2⟩
  have hle := hq rfl
  clear hq
  have HE := Lib.hid (empty_row (sz := 4) (e := 31) (w := w1) (Nat.le_refl _))
  have HF := Lib.hid ((fl_of_ws (HWS.out.ext HX1.out)).ext (ext_alloc w1 (.cells #[] 31)))
  have hln := wrsC_len ws
  have h1c := wrsC_one ws
  go_upto_region 4 with (at_builtin; refine wpList_append_fl rfl (.tmp 10) (.tmp 11) 27 rfl w1.heap.size 31 i0 _ 4 48 Try.underlying27 HI0.out HZ0.out HZ1.out HZ2.out rfl (by decide) HE.out HF.out hln rfl rfl h1c (by unfold maxLen; omega) (by omega) (by simp) ?_; intro v' w3 hown' hg hat; obtain ⟨A9, c9, rfl⟩ := row_sliceK hown'; clear hat; have HOw := Lib.hid hown'; have HG := Lib.hid hg; clear hown' hg)
  have HX3 := Lib.hid (HX1.out.trans (Below.grown (ext_alloc w1 (.cells #[] 31)) HG.out (by simp) (fun k hk => (World.ownsRow.lt HE.out k hk).1)))
  have HW3 : Hid (Ws w3 (.slice A9 (0 + ws.length) c9) ws) := Lib.hid (by
    have h1 := HOw.out
    have h2 : ∀ n, n = ws.length → w3.ownsRow w1.heap.size 31 4 (.slice A9 n c9) n ([] ++ wrsC ws) → Ws w3 (.slice A9 n c9) ws := by
      rintro n rfl h
      exact ws_of_rowC (by simpa using h) HWS.out.2
    exact h2 _ (by simp) h1)
  clear hln h1c HE HF HG HOw
  simp only [Nat.zero_add] at HW3
  have HC1 := Lib.hid (canon_any (.slice A9 ws.length c9) ws w3 HW3.out (by omega))
  go_wp2_with fail
  refine HC1.out.mono ?_
  rintro e w4 ⟨r, rfl, hr, hx4⟩
  obtain ⟨A4, c4, rfl⟩ := ws_slice hr
  obtain ⟨rs, hrs⟩ : ∃ l, l = rcanonF ws := ⟨_, rfl⟩
  rw [← hrs] at hr ⊢
  have HRS := Lib.hid hrs
  have HR4 := Lib.hid hr
  have HX4 := Lib.hid (HX3.out.trans hx4)
  have HW4 := Lib.hid (HW3.out.ext hx4)
  have hrl : rs.length ≤ 500 := by rw [hrs]; exact Nat.le_trans (rcanonF_len ws) hle
  clear hrs hr hx4 HC1 HW3 HX3
  have HC2 := Lib.hid (rcanon_any (.slice A ws.length c) ws w4 (HWS.out.ext HX4.out) (by omega))
  rw [← HRS.out] at HC2
  go_wp2_with fail
  refine HC2.out.mono ?_
  rintro e w5 ⟨r5, rfl, hr5, hx5⟩
  obtain ⟨A5, c5, rfl⟩ := ws_slice hr5
  have HS5 := Lib.hid (wsSame_any (.slice A4 rs.length c4) (.slice A5 rs.length c5) rs w5 (HR4.out.ext hx5) hr5)
  have HX5 := Lib.hid hx5
  clear HC2 hr5 hx5
  go_wp2_with fail
  refine HS5.out.mono ?_
  rintro e w6 ⟨rfl, hx6⟩
  have HX6 := Lib.hid (HX5.out.trans hx6)
  clear hx6 HS5 HX5
  have HS6 := Lib.hid (wsSame_any (.slice A9 ws.length c9) (.slice A ws.length c) ws w6 (HW4.out.ext HX6.out) (HWS.out.ext (HX4.out.trans HX6.out)))
  go_wp2_with fail
  refine HS6.out.mono ?_
  rintro e w7 ⟨rfl, hx7⟩
  have HX7 := Lib.hid (HX6.out.trans hx7)
  clear hx7 HS6 HX6
  have HC7 := Lib.hid (canon_any (.slice A4 rs.length c4) rs w7 (HR4.out.ext HX7.out) (by omega))
  rw [show rcanonF rs = rs from by rw [HRS.out]; exact rcanon_again ws] at HC7
  go_wp2_with fail
  refine HC7.out.mono ?_
  rintro e w8 ⟨r8, rfl, hr8, hx8⟩
  obtain ⟨A8, c8, rfl⟩ := ws_slice hr8
  have HS8 := Lib.hid (wsSame_any (.slice A8 rs.length c8) (.slice A4 rs.length c4) rs w8 hr8 (HR4.out.ext (HX7.out.trans hx8)))
  have HX8 := Lib.hid (HX7.out.trans hx8)
  clear HC7 hr8 hx8 HX7
  go_wp2_with fail
  refine HS8.out.mono ?_
  rintro e w9 ⟨rfl, hx9⟩
  have HR9 := Lib.hid (HR4.out.ext (HX8.out.trans hx9))
  have HX9 := Lib.hid (HX4.out.trans (HX8.out.trans hx9))
  clear hx9 HS8 HX8 HR4 HX4 HW4
  go_wp2_with fail
  go_loopw [5] (fun i wr => ∃ k : Nat, 1 ≤ k ∧ (k ≤ rs.length ∨ k = 1) ∧ i = .int .i64 (k : Int) ∧ Hid (Ext w9 wr)) (fun i _ => rs.length - (intOf i).toNat)
  case atStart => exact ⟨1, Nat.le_refl _, .inr rfl, rfl, Lib.hid (Ext.refl _)⟩
  case round =>
    obtain ⟨k, hk1, hk2, rfl, HX⟩ := hrel
    by_cases hlt : k < rs.length
    · obtain ⟨b0, o0, hA4, hbl, _⟩ : ∃ b o, A4 = some ⟨b, o, none⟩ ∧ b < wr.heap.size ∧ True := by
        obtain ⟨⟨A, c, hv, _, _, _, h4⟩, _⟩ := HR9.out
        obtain ⟨b, off, hA, hb, _⟩ := h4 (by omega)
        injection hv with hv _ _
        exact ⟨b, off, hv.trans hA, Nat.lt_of_lt_of_le hb HX.out.size, trivial⟩
      subst hA4
      obtain ⟨⟨ka, ga, da, za⟩, hga⟩ : ∃ x, rs[k - 1]? = some x := ⟨_, List.getElem?_eq_getElem (by omega)⟩
      obtain ⟨⟨kb, gb, db, zb⟩, hgb⟩ : ∃ x, rs[k]? = some x := ⟨_, List.getElem?_eq_getElem hlt⟩
      have HA := Lib.hid (ws_cells (HR9.out.ext HX.out) hga)
      have HB := Lib.hid (ws_cells (HR9.out.ext HX.out) hgb)
      have HO := Lib.hid (wah_parts (show wahead ⟨ka, ga, da, za⟩ ⟨kb, gb, db, zb⟩ = true by
        have hs := rcanonF_sorted ws
        rw [← HRS.out, List.pairwise_iff_getElem] at hs
        have := hs (k - 1) k (by omega) hlt (by omega)
        rwa [(List.getElem?_eq_some_iff.1 hga).2, (List.getElem?_eq_some_iff.1 hgb).2] at this))
      have HBX := Lib.hid hbl
      dsimp only at HA HB
      clear hga hgb hbl
      obtain ⟨n, hn⟩ : ∃ n, n = rs.length := ⟨_, rfl⟩
      obtain ⟨W, rfl⟩ : ∃ W, W = wr := ⟨_, rfl⟩
      obtain ⟨bx, rfl⟩ : ∃ x, x = b0 := ⟨_, rfl⟩
      obtain ⟨ox, rfl⟩ : ∃ x, x = o0 := ⟨_, rfl⟩
      have hkn : k < n := by omega
      rw [← hn] at *
      obtain ⟨cx, rfl⟩ : ∃ x, x = c4 := ⟨_, rfl⟩
      go_upto_region 10 with (fail)
      obtain ⟨q, hq⟩ : ∃ q : Bool, (ka == kb) = q := ⟨_, rfl⟩
      have HQ := Lib.hid hq
      clear hq
      cases q
      · refine wp_region_mono (by kernel_rfl) (by kernel_rfl) ?_
        refine tele_move rfl (.inl rfl) rfl (isV (.slice (some ⟨bx, ox, none⟩) n cx)) (fun ρ w' h => h) ?_
        refine tele_move rfl (.inl rfl) rfl (isV (.int .i64 (k : Int))) (fun ρ w' h => h) ?_
        refine tele_val rfl (.int .i64 ((k - 1 : Nat) : Int)) (fun _ _ _ => rfl) ?_ ?_
        · rintro ρ w' he ⟨h40, -⟩
          have e40 : ρ 40 = (.int .i64 (k : Int)) := h40
          have hw1 : IntKind.i64.wrap ((k : Int) - 1) = ((k - 1 : Nat) : Int) := by rw [IntWalk.i64_in _ (by omega)]; omega
          simp [execOp, evR, e40, hw1, go_sem]
        refine tele_val rfl (.pointer (some ⟨bx, ox + (k - 1) * 4, none⟩)) (fun _ _ _ => rfl) ?_ ?_
        · rintro ρ w' he ⟨h39, h41, -⟩
          have e39 : ρ 39 = (.slice (some ⟨bx, ox, none⟩) n cx) := h39
          have e41 : ρ 41 = (.int .i64 ((k - 1 : Nat) : Int)) := h41
          exact index_at (w := w') 4 rfl Try.underlying27 e39 e41 (by omega) (by kernel_rfl)
        refine tele_val rfl (.pointer (some ⟨bx, ox + (k - 1) * 4, none⟩)) (fun _ _ _ => rfl) ?_ ?_
        · rintro ρ w' he ⟨h42, -⟩
          have e42 : ρ 42 = (.pointer (some ⟨bx, ox + (k - 1) * 4, none⟩)) := h42
          simp [execOp, evR, e42, go_sem]
        refine tele_val rfl (strV ka) (fun _ _ _ => rfl) ?_ ?_
        · rintro ρ w' he ⟨h43, -⟩
          have e43 : ρ 43 = (.pointer (some ⟨bx, ox + (k - 1) * 4, none⟩)) := h43
          have c := (he.cell (p := ⟨bx, ox + (k - 1) * 4, none⟩) HBX.out).trans HA.out.1
          simp [execOp, evR, e43, c, go_sem]
        refine tele_move rfl (.inl rfl) rfl (isV (.slice (some ⟨bx, ox, none⟩) n cx)) (fun ρ w' h => h) ?_
        refine tele_move rfl (.inl rfl) rfl (isV (.int .i64 (k : Int))) (fun ρ w' h => h) ?_
        refine tele_val rfl (.pointer (some ⟨bx, ox + k * 4, none⟩)) (fun _ _ _ => rfl) ?_ ?_
        · rintro ρ w' he ⟨h45, h46, -⟩
          have e45 : ρ 45 = (.slice (some ⟨bx, ox, none⟩) n cx) := h45
          have e46 : ρ 46 = (.int .i64 (k : Int)) := h46
          exact index_at (w := w') 4 rfl Try.underlying27 e45 e46 (by omega) (by kernel_rfl)
        refine tele_val rfl (.pointer (some ⟨bx, ox + k * 4, none⟩)) (fun _ _ _ => rfl) ?_ ?_
        · rintro ρ w' he ⟨h47, -⟩
          have e47 : ρ 47 = (.pointer (some ⟨bx, ox + k * 4, none⟩)) := h47
          simp [execOp, evR, e47, go_sem]
        refine tele_val rfl (strV kb) (fun _ _ _ => rfl) ?_ ?_
        · rintro ρ w' he ⟨h48, -⟩
          have e48 : ρ 48 = (.pointer (some ⟨bx, ox + k * 4, none⟩)) := h48
          have c := (he.cell (p := ⟨bx, ox + k * 4, none⟩) HBX.out).trans HB.out.1
          simp [execOp, evR, e48, c, go_sem]
        refine tele_val rfl (.bool false) (fun _ _ _ => rfl) ?_ ?_
        · rintro ρ w' he ⟨h44, h49, -⟩
          have e44 : ρ 44 = (strV ka) := h44
          have e49 : ρ 49 = (strV kb) := h49
          unfold strV at e44 e49
          have h := HO.out.1
          simp [execOp, evR, e44, e49, h, go_sem]
          intro h1
          refine Classical.byContradiction fun hne => ?_
          have h2 := bls_total h1 hne
          rw [h] at h2
          cases h2
        refine tele_move rfl (.inl rfl) rfl (isV (.bool false)) (fun ρ w' h => h) ?_
        refine tele_val rfl ((.slice (some ⟨bx, ox, none⟩) n cx)) (fun ρ w' hk => by obtain ⟨_, hg, -⟩ := hk; have eg : ρ 51 = (.bool false) := hg; simp [wantedR, Region.wanted, asBoolR, eg]) ?_ ?_
        · rintro ρ w' he ⟨h4, -⟩
          have e4 : ρ 4 = (.slice (some ⟨bx, ox, none⟩) n cx) := h4
          simp [execOp, evR, e4]
        refine tele_val rfl ((.int .i64 (k : Int))) (fun ρ w' hk => by obtain ⟨_, hg, -⟩ := hk; have eg : ρ 51 = (.bool false) := hg; simp [wantedR, Region.wanted, asBoolR, eg]) ?_ ?_
        · rintro ρ w' he ⟨h5, -⟩
          have e5 : ρ 5 = (.int .i64 (k : Int)) := h5
          simp [execOp, evR, e5]
        refine tele_val rfl (.int .i64 ((k - 1 : Nat) : Int)) (fun ρ w' hk => by obtain ⟨_, hg, -⟩ := hk; have eg : ρ 51 = (.bool false) := hg; simp [wantedR, Region.wanted, asBoolR, eg]) ?_ ?_
        · rintro ρ w' he ⟨h53, -⟩
          have e53 : ρ 53 = (.int .i64 (k : Int)) := h53
          have hw1 : IntKind.i64.wrap ((k : Int) - 1) = ((k - 1 : Nat) : Int) := by rw [IntWalk.i64_in _ (by omega)]; omega
          simp [execOp, evR, e53, hw1, go_sem]
        refine tele_val rfl (.pointer (some ⟨bx, ox + (k - 1) * 4, none⟩)) (fun ρ w' hk => by obtain ⟨_, _, hg, -⟩ := hk; have eg : ρ 51 = (.bool false) := hg; simp [wantedR, Region.wanted, asBoolR, eg]) ?_ ?_
        · rintro ρ w' he ⟨h52, h54, -⟩
          have e52 : ρ 52 = (.slice (some ⟨bx, ox, none⟩) n cx) := h52
          have e54 : ρ 54 = (.int .i64 ((k - 1 : Nat) : Int)) := h54
          exact index_at (w := w') 4 rfl Try.underlying27 e52 e54 (by omega) (by kernel_rfl)
        refine tele_val rfl (.pointer (some ⟨bx, ox + (k - 1) * 4, none⟩)) (fun ρ w' hk => by obtain ⟨_, hg, -⟩ := hk; have eg : ρ 51 = (.bool false) := hg; simp [wantedR, Region.wanted, asBoolR, eg]) ?_ ?_
        · rintro ρ w' he ⟨h55, -⟩
          have e55 : ρ 55 = (.pointer (some ⟨bx, ox + (k - 1) * 4, none⟩)) := h55
          simp [execOp, evR, e55, go_sem]
        refine tele_val rfl (strV ka) (fun ρ w' hk => by obtain ⟨_, hg, -⟩ := hk; have eg : ρ 51 = (.bool false) := hg; simp [wantedR, Region.wanted, asBoolR, eg]) ?_ ?_
        · rintro ρ w' he ⟨h56, -⟩
          have e56 : ρ 56 = (.pointer (some ⟨bx, ox + (k - 1) * 4, none⟩)) := h56
          have c := (he.cell (p := ⟨bx, ox + (k - 1) * 4, none⟩) HBX.out).trans HA.out.1
          simp [execOp, evR, e56, c, go_sem]
        refine tele_val rfl ((.slice (some ⟨bx, ox, none⟩) n cx)) (fun ρ w' hk => by obtain ⟨_, hg, -⟩ := hk; have eg : ρ 51 = (.bool false) := hg; simp [wantedR, Region.wanted, asBoolR, eg]) ?_ ?_
        · rintro ρ w' he ⟨h4, -⟩
          have e4 : ρ 4 = (.slice (some ⟨bx, ox, none⟩) n cx) := h4
          simp [execOp, evR, e4]
        refine tele_val rfl ((.int .i64 (k : Int))) (fun ρ w' hk => by obtain ⟨_, hg, -⟩ := hk; have eg : ρ 51 = (.bool false) := hg; simp [wantedR, Region.wanted, asBoolR, eg]) ?_ ?_
        · rintro ρ w' he ⟨h5, -⟩
          have e5 : ρ 5 = (.int .i64 (k : Int)) := h5
          simp [execOp, evR, e5]
        refine tele_val rfl (.pointer (some ⟨bx, ox + k * 4, none⟩)) (fun ρ w' hk => by obtain ⟨_, _, hg, -⟩ := hk; have eg : ρ 51 = (.bool false) := hg; simp [wantedR, Region.wanted, asBoolR, eg]) ?_ ?_
        · rintro ρ w' he ⟨h58, h59, -⟩
          have e58 : ρ 58 = (.slice (some ⟨bx, ox, none⟩) n cx) := h58
          have e59 : ρ 59 = (.int .i64 (k : Int)) := h59
          exact index_at (w := w') 4 rfl Try.underlying27 e58 e59 (by omega) (by kernel_rfl)
        refine tele_val rfl (.pointer (some ⟨bx, ox + k * 4, none⟩)) (fun ρ w' hk => by obtain ⟨_, hg, -⟩ := hk; have eg : ρ 51 = (.bool false) := hg; simp [wantedR, Region.wanted, asBoolR, eg]) ?_ ?_
        · rintro ρ w' he ⟨h60, -⟩
          have e60 : ρ 60 = (.pointer (some ⟨bx, ox + k * 4, none⟩)) := h60
          simp [execOp, evR, e60, go_sem]
        refine tele_val rfl (strV kb) (fun ρ w' hk => by obtain ⟨_, hg, -⟩ := hk; have eg : ρ 51 = (.bool false) := hg; simp [wantedR, Region.wanted, asBoolR, eg]) ?_ ?_
        · rintro ρ w' he ⟨h61, -⟩
          have e61 : ρ 61 = (.pointer (some ⟨bx, ox + k * 4, none⟩)) := h61
          have c := (he.cell (p := ⟨bx, ox + k * 4, none⟩) HBX.out).trans HB.out.1
          simp [execOp, evR, e61, c, go_sem]
        refine tele_val rfl (.bool false) (fun ρ w' hk => by obtain ⟨_, _, hg, -⟩ := hk; have eg : ρ 51 = (.bool false) := hg; simp [wantedR, Region.wanted, asBoolR, eg]) ?_ ?_
        · rintro ρ w' he ⟨h57, h62, -⟩
          have e57 : ρ 57 = (strV ka) := h57
          have e62 : ρ 62 = (strV kb) := h62
          exact (exec_eql_str rfl e57 e62).trans (by rw [HQ.out])
        refine tele_val rfl ((.bool false)) (fun ρ w' hk => by obtain ⟨_, hg, -⟩ := hk; have eg : ρ 51 = (.bool false) := hg; simp [wantedR, Region.wanted, asBoolR, eg]) ?_ ?_
        · rintro ρ w' he ⟨h63, -⟩
          have e63 : ρ 63 = (.bool false) := h63
          simp [execOp, evR, e63]
        refine tele_pass rfl (fun ρ w' hk => by obtain ⟨_, hg, -⟩ := hk; have eg : ρ 64 = (.bool false) := hg; simp [wantedR, Region.wanted, asBoolR, eg]) ?_
        refine tele_pass rfl (fun ρ w' hk => by obtain ⟨_, hg, -⟩ := hk; have eg : ρ 64 = (.bool false) := hg; simp [wantedR, Region.wanted, asBoolR, eg]) ?_
        refine tele_pass rfl (fun ρ w' hk => by obtain ⟨_, hg, -⟩ := hk; have eg : ρ 64 = (.bool false) := hg; simp [wantedR, Region.wanted, asBoolR, eg]) ?_
        refine tele_pass rfl (fun ρ w' hk => by obtain ⟨_, _, hg, -⟩ := hk; have eg : ρ 64 = (.bool false) := hg; simp [wantedR, Region.wanted, asBoolR, eg]) ?_
        refine tele_pass rfl (fun ρ w' hk => by obtain ⟨_, hg, -⟩ := hk; have eg : ρ 64 = (.bool false) := hg; simp [wantedR, Region.wanted, asBoolR, eg]) ?_
        refine tele_pass rfl (fun ρ w' hk => by obtain ⟨_, hg, -⟩ := hk; have eg : ρ 64 = (.bool false) := hg; simp [wantedR, Region.wanted, asBoolR, eg]) ?_
        refine tele_pass rfl (fun ρ w' hk => by obtain ⟨_, hg, -⟩ := hk; have eg : ρ 64 = (.bool false) := hg; simp [wantedR, Region.wanted, asBoolR, eg]) ?_
        refine tele_pass rfl (fun ρ w' hk => by obtain ⟨_, hg, -⟩ := hk; have eg : ρ 64 = (.bool false) := hg; simp [wantedR, Region.wanted, asBoolR, eg]) ?_
        refine tele_pass rfl (fun ρ w' hk => by obtain ⟨_, _, hg, -⟩ := hk; have eg : ρ 64 = (.bool false) := hg; simp [wantedR, Region.wanted, asBoolR, eg]) ?_
        refine tele_pass rfl (fun ρ w' hk => by obtain ⟨_, hg, -⟩ := hk; have eg : ρ 64 = (.bool false) := hg; simp [wantedR, Region.wanted, asBoolR, eg]) ?_
        refine tele_pass rfl (fun ρ w' hk => by obtain ⟨_, hg, -⟩ := hk; have eg : ρ 64 = (.bool false) := hg; simp [wantedR, Region.wanted, asBoolR, eg]) ?_
        refine tele_pass rfl (fun ρ w' hk => by obtain ⟨_, _, hg, -⟩ := hk; have eg : ρ 64 = (.bool false) := hg; simp [wantedR, Region.wanted, asBoolR, eg]) ?_
        refine tele_val rfl (.bool false) (fun ρ w' hk => by obtain ⟨_, _, hg, -⟩ := hk; have eg : ρ 51 = (.bool false) := hg; simp [wantedR, Region.wanted, asBoolR, eg]) ?_ ?_
        · rintro ρ w' he ⟨h64, h76, -⟩
          have e64 : ρ 64 = (.bool false) := h64
          have e76 : ρ 76 = undef := h76
          simp [execOp, evR, e64, go_sem]
        refine tele_val rfl (.bool false) (fun _ _ _ => rfl) ?_ ?_
        · rintro ρ w' he ⟨h51, h77, -⟩
          have e51 : ρ 51 = (.bool false) := h51
          have e77 : ρ 77 = (.bool false) := h77
          simp [execOp, evR, e51, e77, go_sem]
        refine tele_nil ?_
        rintro ρ w' hext ⟨f78, f77, f76, f75, f74, f73, f72, f71, f70, f69, f68, f67, f66, f65, f64, f63, f62, f61, f60, f59, f58, f57, f56, f55, f54, f53, f52, f51, f50, f49, f48, f47, f46, f45, f44, f43, f42, f41, f40, f39, -⟩
        replace f39 : ρ 39 = (.slice (some ⟨bx, ox, none⟩) n cx) := f39
        replace f40 : ρ 40 = (.int .i64 (k : Int)) := f40
        replace f41 : ρ 41 = (.int .i64 ((k - 1 : Nat) : Int)) := f41
        replace f42 : ρ 42 = (.pointer (some ⟨bx, ox + (k - 1) * 4, none⟩)) := f42
        replace f43 : ρ 43 = (.pointer (some ⟨bx, ox + (k - 1) * 4, none⟩)) := f43
        replace f44 : ρ 44 = (strV ka) := f44
        replace f45 : ρ 45 = (.slice (some ⟨bx, ox, none⟩) n cx) := f45
        replace f46 : ρ 46 = (.int .i64 (k : Int)) := f46
        replace f47 : ρ 47 = (.pointer (some ⟨bx, ox + k * 4, none⟩)) := f47
        replace f48 : ρ 48 = (.pointer (some ⟨bx, ox + k * 4, none⟩)) := f48
        replace f49 : ρ 49 = (strV kb) := f49
        replace f50 : ρ 50 = (.bool false) := f50
        replace f51 : ρ 51 = (.bool false) := f51
        replace f52 : ρ 52 = (.slice (some ⟨bx, ox, none⟩) n cx) := f52
        replace f53 : ρ 53 = (.int .i64 (k : Int)) := f53
        replace f54 : ρ 54 = (.int .i64 ((k - 1 : Nat) : Int)) := f54
        replace f55 : ρ 55 = (.pointer (some ⟨bx, ox + (k - 1) * 4, none⟩)) := f55
        replace f56 : ρ 56 = (.pointer (some ⟨bx, ox + (k - 1) * 4, none⟩)) := f56
        replace f57 : ρ 57 = (strV ka) := f57
        replace f58 : ρ 58 = (.slice (some ⟨bx, ox, none⟩) n cx) := f58
        replace f59 : ρ 59 = (.int .i64 (k : Int)) := f59
        replace f60 : ρ 60 = (.pointer (some ⟨bx, ox + k * 4, none⟩)) := f60
        replace f61 : ρ 61 = (.pointer (some ⟨bx, ox + k * 4, none⟩)) := f61
        replace f62 : ρ 62 = (strV kb) := f62
        replace f63 : ρ 63 = (.bool false) := f63
        replace f64 : ρ 64 = (.bool false) := f64
        replace f65 : ρ 65 = undef := f65
        replace f66 : ρ 66 = undef := f66
        replace f67 : ρ 67 = undef := f67
        replace f68 : ρ 68 = undef := f68
        replace f69 : ρ 69 = undef := f69
        replace f70 : ρ 70 = undef := f70
        replace f71 : ρ 71 = undef := f71
        replace f72 : ρ 72 = undef := f72
        replace f73 : ρ 73 = undef := f73
        replace f74 : ρ 74 = undef := f74
        replace f75 : ρ 75 = undef := f75
        replace f76 : ρ 76 = undef := f76
        replace f77 : ρ 77 = (.bool false) := f77
        replace f78 : ρ 78 = (.bool false) := f78
        simp only [puts, Act.put, List.setIfInBounds_toArray, List.set_cons_zero, List.set_cons_succ]
        rw [f78]
        clear f39
        clear f40
        clear f41
        clear f42
        clear f43
        clear f44
        clear f45
        clear f46
        clear f47
        clear f48
        clear f49
        clear f50
        clear f51
        clear f52
        clear f53
        clear f54
        clear f55
        clear f56
        clear f57
        clear f58
        clear f59
        clear f60
        clear f61
        clear f62
        clear f63
        clear f64
        clear f65
        clear f66
        clear f67
        clear f68
        clear f69
        clear f70
        clear f71
        clear f72
        clear f73
        clear f74
        clear f75
        clear f76
        clear f77
        clear f78
        have HX9 := Lib.hid (HX.out.trans hext)
        clear hext
        go_wp2_with fail
        go_roundw
        case rel => exact ⟨k + 1, by omega, by omega, by go_num, HX9⟩
        case measure => simp [intOf]; omega
      · refine wp_region_mono (by kernel_rfl) (by kernel_rfl) ?_
        refine tele_move rfl (.inl rfl) rfl (isV (.slice (some ⟨bx, ox, none⟩) n cx)) (fun ρ w' h => h) ?_
        refine tele_move rfl (.inl rfl) rfl (isV (.int .i64 (k : Int))) (fun ρ w' h => h) ?_
        refine tele_val rfl (.int .i64 ((k - 1 : Nat) : Int)) (fun _ _ _ => rfl) ?_ ?_
        · rintro ρ w' he ⟨h40, -⟩
          have e40 : ρ 40 = (.int .i64 (k : Int)) := h40
          have hw1 : IntKind.i64.wrap ((k : Int) - 1) = ((k - 1 : Nat) : Int) := by rw [IntWalk.i64_in _ (by omega)]; omega
          simp [execOp, evR, e40, hw1, go_sem]
        refine tele_val rfl (.pointer (some ⟨bx, ox + (k - 1) * 4, none⟩)) (fun _ _ _ => rfl) ?_ ?_
        · rintro ρ w' he ⟨h39, h41, -⟩
          have e39 : ρ 39 = (.slice (some ⟨bx, ox, none⟩) n cx) := h39
          have e41 : ρ 41 = (.int .i64 ((k - 1 : Nat) : Int)) := h41
          exact index_at (w := w') 4 rfl Try.underlying27 e39 e41 (by omega) (by kernel_rfl)
        refine tele_val rfl (.pointer (some ⟨bx, ox + (k - 1) * 4, none⟩)) (fun _ _ _ => rfl) ?_ ?_
        · rintro ρ w' he ⟨h42, -⟩
          have e42 : ρ 42 = (.pointer (some ⟨bx, ox + (k - 1) * 4, none⟩)) := h42
          simp [execOp, evR, e42, go_sem]
        refine tele_val rfl (strV ka) (fun _ _ _ => rfl) ?_ ?_
        · rintro ρ w' he ⟨h43, -⟩
          have e43 : ρ 43 = (.pointer (some ⟨bx, ox + (k - 1) * 4, none⟩)) := h43
          have c := (he.cell (p := ⟨bx, ox + (k - 1) * 4, none⟩) HBX.out).trans HA.out.1
          simp [execOp, evR, e43, c, go_sem]
        refine tele_move rfl (.inl rfl) rfl (isV (.slice (some ⟨bx, ox, none⟩) n cx)) (fun ρ w' h => h) ?_
        refine tele_move rfl (.inl rfl) rfl (isV (.int .i64 (k : Int))) (fun ρ w' h => h) ?_
        refine tele_val rfl (.pointer (some ⟨bx, ox + k * 4, none⟩)) (fun _ _ _ => rfl) ?_ ?_
        · rintro ρ w' he ⟨h45, h46, -⟩
          have e45 : ρ 45 = (.slice (some ⟨bx, ox, none⟩) n cx) := h45
          have e46 : ρ 46 = (.int .i64 (k : Int)) := h46
          exact index_at (w := w') 4 rfl Try.underlying27 e45 e46 (by omega) (by kernel_rfl)
        refine tele_val rfl (.pointer (some ⟨bx, ox + k * 4, none⟩)) (fun _ _ _ => rfl) ?_ ?_
        · rintro ρ w' he ⟨h47, -⟩
          have e47 : ρ 47 = (.pointer (some ⟨bx, ox + k * 4, none⟩)) := h47
          simp [execOp, evR, e47, go_sem]
        refine tele_val rfl (strV kb) (fun _ _ _ => rfl) ?_ ?_
        · rintro ρ w' he ⟨h48, -⟩
          have e48 : ρ 48 = (.pointer (some ⟨bx, ox + k * 4, none⟩)) := h48
          have c := (he.cell (p := ⟨bx, ox + k * 4, none⟩) HBX.out).trans HB.out.1
          simp [execOp, evR, e48, c, go_sem]
        refine tele_val rfl (.bool false) (fun _ _ _ => rfl) ?_ ?_
        · rintro ρ w' he ⟨h44, h49, -⟩
          have e44 : ρ 44 = (strV ka) := h44
          have e49 : ρ 49 = (strV kb) := h49
          unfold strV at e44 e49
          have h := HO.out.1
          simp [execOp, evR, e44, e49, h, go_sem]
          intro h1
          refine Classical.byContradiction fun hne => ?_
          have h2 := bls_total h1 hne
          rw [h] at h2
          cases h2
        refine tele_move rfl (.inl rfl) rfl (isV (.bool false)) (fun ρ w' h => h) ?_
        refine tele_val rfl ((.slice (some ⟨bx, ox, none⟩) n cx)) (fun ρ w' hk => by obtain ⟨_, hg, -⟩ := hk; have eg : ρ 51 = (.bool false) := hg; simp [wantedR, Region.wanted, asBoolR, eg]) ?_ ?_
        · rintro ρ w' he ⟨h4, -⟩
          have e4 : ρ 4 = (.slice (some ⟨bx, ox, none⟩) n cx) := h4
          simp [execOp, evR, e4]
        refine tele_val rfl ((.int .i64 (k : Int))) (fun ρ w' hk => by obtain ⟨_, hg, -⟩ := hk; have eg : ρ 51 = (.bool false) := hg; simp [wantedR, Region.wanted, asBoolR, eg]) ?_ ?_
        · rintro ρ w' he ⟨h5, -⟩
          have e5 : ρ 5 = (.int .i64 (k : Int)) := h5
          simp [execOp, evR, e5]
        refine tele_val rfl (.int .i64 ((k - 1 : Nat) : Int)) (fun ρ w' hk => by obtain ⟨_, hg, -⟩ := hk; have eg : ρ 51 = (.bool false) := hg; simp [wantedR, Region.wanted, asBoolR, eg]) ?_ ?_
        · rintro ρ w' he ⟨h53, -⟩
          have e53 : ρ 53 = (.int .i64 (k : Int)) := h53
          have hw1 : IntKind.i64.wrap ((k : Int) - 1) = ((k - 1 : Nat) : Int) := by rw [IntWalk.i64_in _ (by omega)]; omega
          simp [execOp, evR, e53, hw1, go_sem]
        refine tele_val rfl (.pointer (some ⟨bx, ox + (k - 1) * 4, none⟩)) (fun ρ w' hk => by obtain ⟨_, _, hg, -⟩ := hk; have eg : ρ 51 = (.bool false) := hg; simp [wantedR, Region.wanted, asBoolR, eg]) ?_ ?_
        · rintro ρ w' he ⟨h52, h54, -⟩
          have e52 : ρ 52 = (.slice (some ⟨bx, ox, none⟩) n cx) := h52
          have e54 : ρ 54 = (.int .i64 ((k - 1 : Nat) : Int)) := h54
          exact index_at (w := w') 4 rfl Try.underlying27 e52 e54 (by omega) (by kernel_rfl)
        refine tele_val rfl (.pointer (some ⟨bx, ox + (k - 1) * 4, none⟩)) (fun ρ w' hk => by obtain ⟨_, hg, -⟩ := hk; have eg : ρ 51 = (.bool false) := hg; simp [wantedR, Region.wanted, asBoolR, eg]) ?_ ?_
        · rintro ρ w' he ⟨h55, -⟩
          have e55 : ρ 55 = (.pointer (some ⟨bx, ox + (k - 1) * 4, none⟩)) := h55
          simp [execOp, evR, e55, go_sem]
        refine tele_val rfl (strV ka) (fun ρ w' hk => by obtain ⟨_, hg, -⟩ := hk; have eg : ρ 51 = (.bool false) := hg; simp [wantedR, Region.wanted, asBoolR, eg]) ?_ ?_
        · rintro ρ w' he ⟨h56, -⟩
          have e56 : ρ 56 = (.pointer (some ⟨bx, ox + (k - 1) * 4, none⟩)) := h56
          have c := (he.cell (p := ⟨bx, ox + (k - 1) * 4, none⟩) HBX.out).trans HA.out.1
          simp [execOp, evR, e56, c, go_sem]
        refine tele_val rfl ((.slice (some ⟨bx, ox, none⟩) n cx)) (fun ρ w' hk => by obtain ⟨_, hg, -⟩ := hk; have eg : ρ 51 = (.bool false) := hg; simp [wantedR, Region.wanted, asBoolR, eg]) ?_ ?_
        · rintro ρ w' he ⟨h4, -⟩
          have e4 : ρ 4 = (.slice (some ⟨bx, ox, none⟩) n cx) := h4
          simp [execOp, evR, e4]
        refine tele_val rfl ((.int .i64 (k : Int))) (fun ρ w' hk => by obtain ⟨_, hg, -⟩ := hk; have eg : ρ 51 = (.bool false) := hg; simp [wantedR, Region.wanted, asBoolR, eg]) ?_ ?_
        · rintro ρ w' he ⟨h5, -⟩
          have e5 : ρ 5 = (.int .i64 (k : Int)) := h5
          simp [execOp, evR, e5]
        refine tele_val rfl (.pointer (some ⟨bx, ox + k * 4, none⟩)) (fun ρ w' hk => by obtain ⟨_, _, hg, -⟩ := hk; have eg : ρ 51 = (.bool false) := hg; simp [wantedR, Region.wanted, asBoolR, eg]) ?_ ?_
        · rintro ρ w' he ⟨h58, h59, -⟩
          have e58 : ρ 58 = (.slice (some ⟨bx, ox, none⟩) n cx) := h58
          have e59 : ρ 59 = (.int .i64 (k : Int)) := h59
          exact index_at (w := w') 4 rfl Try.underlying27 e58 e59 (by omega) (by kernel_rfl)
        refine tele_val rfl (.pointer (some ⟨bx, ox + k * 4, none⟩)) (fun ρ w' hk => by obtain ⟨_, hg, -⟩ := hk; have eg : ρ 51 = (.bool false) := hg; simp [wantedR, Region.wanted, asBoolR, eg]) ?_ ?_
        · rintro ρ w' he ⟨h60, -⟩
          have e60 : ρ 60 = (.pointer (some ⟨bx, ox + k * 4, none⟩)) := h60
          simp [execOp, evR, e60, go_sem]
        refine tele_val rfl (strV kb) (fun ρ w' hk => by obtain ⟨_, hg, -⟩ := hk; have eg : ρ 51 = (.bool false) := hg; simp [wantedR, Region.wanted, asBoolR, eg]) ?_ ?_
        · rintro ρ w' he ⟨h61, -⟩
          have e61 : ρ 61 = (.pointer (some ⟨bx, ox + k * 4, none⟩)) := h61
          have c := (he.cell (p := ⟨bx, ox + k * 4, none⟩) HBX.out).trans HB.out.1
          simp [execOp, evR, e61, c, go_sem]
        refine tele_val rfl (.bool true) (fun ρ w' hk => by obtain ⟨_, _, hg, -⟩ := hk; have eg : ρ 51 = (.bool false) := hg; simp [wantedR, Region.wanted, asBoolR, eg]) ?_ ?_
        · rintro ρ w' he ⟨h57, h62, -⟩
          have e57 : ρ 57 = (strV ka) := h57
          have e62 : ρ 62 = (strV kb) := h62
          exact (exec_eql_str rfl e57 e62).trans (by rw [HQ.out])
        refine tele_val rfl ((.bool true)) (fun ρ w' hk => by obtain ⟨_, hg, -⟩ := hk; have eg : ρ 51 = (.bool false) := hg; simp [wantedR, Region.wanted, asBoolR, eg]) ?_ ?_
        · rintro ρ w' he ⟨h63, -⟩
          have e63 : ρ 63 = (.bool true) := h63
          simp [execOp, evR, e63]
        refine tele_val rfl ((.slice (some ⟨bx, ox, none⟩) n cx)) (fun ρ w' hk => by obtain ⟨_, hg, -⟩ := hk; have eg : ρ 64 = (.bool true) := hg; simp [wantedR, Region.wanted, asBoolR, eg]) ?_ ?_
        · rintro ρ w' he ⟨h4, -⟩
          have e4 : ρ 4 = (.slice (some ⟨bx, ox, none⟩) n cx) := h4
          simp [execOp, evR, e4]
        refine tele_val rfl ((.int .i64 (k : Int))) (fun ρ w' hk => by obtain ⟨_, hg, -⟩ := hk; have eg : ρ 64 = (.bool true) := hg; simp [wantedR, Region.wanted, asBoolR, eg]) ?_ ?_
        · rintro ρ w' he ⟨h5, -⟩
          have e5 : ρ 5 = (.int .i64 (k : Int)) := h5
          simp [execOp, evR, e5]
        refine tele_val rfl (.int .i64 ((k - 1 : Nat) : Int)) (fun ρ w' hk => by obtain ⟨_, hg, -⟩ := hk; have eg : ρ 64 = (.bool true) := hg; simp [wantedR, Region.wanted, asBoolR, eg]) ?_ ?_
        · rintro ρ w' he ⟨h66, -⟩
          have e66 : ρ 66 = (.int .i64 (k : Int)) := h66
          have hw1 : IntKind.i64.wrap ((k : Int) - 1) = ((k - 1 : Nat) : Int) := by rw [IntWalk.i64_in _ (by omega)]; omega
          simp [execOp, evR, e66, hw1, go_sem]
        refine tele_val rfl (.pointer (some ⟨bx, ox + (k - 1) * 4, none⟩)) (fun ρ w' hk => by obtain ⟨_, _, hg, -⟩ := hk; have eg : ρ 64 = (.bool true) := hg; simp [wantedR, Region.wanted, asBoolR, eg]) ?_ ?_
        · rintro ρ w' he ⟨h65, h67, -⟩
          have e65 : ρ 65 = (.slice (some ⟨bx, ox, none⟩) n cx) := h65
          have e67 : ρ 67 = (.int .i64 ((k - 1 : Nat) : Int)) := h67
          exact index_at (w := w') 4 rfl Try.underlying27 e65 e67 (by omega) (by kernel_rfl)
        refine tele_val rfl (.pointer (some ⟨bx, ox + (k - 1) * 4 + 1, none⟩)) (fun ρ w' hk => by obtain ⟨_, hg, -⟩ := hk; have eg : ρ 64 = (.bool true) := hg; simp [wantedR, Region.wanted, asBoolR, eg]) ?_ ?_
        · rintro ρ w' he ⟨h68, -⟩
          have e68 : ρ 68 = (.pointer (some ⟨bx, ox + (k - 1) * 4, none⟩)) := h68
          simp [execOp, evR, e68, go_sem]
        refine tele_val rfl (.int .i64 ga) (fun ρ w' hk => by obtain ⟨_, hg, -⟩ := hk; have eg : ρ 64 = (.bool true) := hg; simp [wantedR, Region.wanted, asBoolR, eg]) ?_ ?_
        · rintro ρ w' he ⟨h69, -⟩
          have e69 : ρ 69 = (.pointer (some ⟨bx, ox + (k - 1) * 4 + 1, none⟩)) := h69
          have c := (he.cell (p := ⟨bx, ox + (k - 1) * 4 + 1, none⟩) HBX.out).trans HA.out.2
          simp [execOp, evR, e69, c, go_sem]
        refine tele_val rfl ((.slice (some ⟨bx, ox, none⟩) n cx)) (fun ρ w' hk => by obtain ⟨_, hg, -⟩ := hk; have eg : ρ 64 = (.bool true) := hg; simp [wantedR, Region.wanted, asBoolR, eg]) ?_ ?_
        · rintro ρ w' he ⟨h4, -⟩
          have e4 : ρ 4 = (.slice (some ⟨bx, ox, none⟩) n cx) := h4
          simp [execOp, evR, e4]
        refine tele_val rfl ((.int .i64 (k : Int))) (fun ρ w' hk => by obtain ⟨_, hg, -⟩ := hk; have eg : ρ 64 = (.bool true) := hg; simp [wantedR, Region.wanted, asBoolR, eg]) ?_ ?_
        · rintro ρ w' he ⟨h5, -⟩
          have e5 : ρ 5 = (.int .i64 (k : Int)) := h5
          simp [execOp, evR, e5]
        refine tele_val rfl (.pointer (some ⟨bx, ox + k * 4, none⟩)) (fun ρ w' hk => by obtain ⟨_, _, hg, -⟩ := hk; have eg : ρ 64 = (.bool true) := hg; simp [wantedR, Region.wanted, asBoolR, eg]) ?_ ?_
        · rintro ρ w' he ⟨h71, h72, -⟩
          have e71 : ρ 71 = (.slice (some ⟨bx, ox, none⟩) n cx) := h71
          have e72 : ρ 72 = (.int .i64 (k : Int)) := h72
          exact index_at (w := w') 4 rfl Try.underlying27 e71 e72 (by omega) (by kernel_rfl)
        refine tele_val rfl (.pointer (some ⟨bx, ox + k * 4 + 1, none⟩)) (fun ρ w' hk => by obtain ⟨_, hg, -⟩ := hk; have eg : ρ 64 = (.bool true) := hg; simp [wantedR, Region.wanted, asBoolR, eg]) ?_ ?_
        · rintro ρ w' he ⟨h73, -⟩
          have e73 : ρ 73 = (.pointer (some ⟨bx, ox + k * 4, none⟩)) := h73
          simp [execOp, evR, e73, go_sem]
        refine tele_val rfl (.int .i64 gb) (fun ρ w' hk => by obtain ⟨_, hg, -⟩ := hk; have eg : ρ 64 = (.bool true) := hg; simp [wantedR, Region.wanted, asBoolR, eg]) ?_ ?_
        · rintro ρ w' he ⟨h74, -⟩
          have e74 : ρ 74 = (.pointer (some ⟨bx, ox + k * 4 + 1, none⟩)) := h74
          have c := (he.cell (p := ⟨bx, ox + k * 4 + 1, none⟩) HBX.out).trans HB.out.2
          simp [execOp, evR, e74, c, go_sem]
        refine tele_val rfl (.bool false) (fun ρ w' hk => by obtain ⟨_, _, hg, -⟩ := hk; have eg : ρ 64 = (.bool true) := hg; simp [wantedR, Region.wanted, asBoolR, eg]) ?_ ?_
        · rintro ρ w' he ⟨h70, h75, -⟩
          have e70 : ρ 70 = (.int .i64 ga) := h70
          have e75 : ρ 75 = (.int .i64 gb) := h75
          have h := HO.out.2 (by simpa using HQ.out)
          have h2 : ¬ gb ≤ ga := by omega
          simp [execOp, evR, e70, e75, h2, go_sem]
        refine tele_val rfl (.bool false) (fun ρ w' hk => by obtain ⟨_, _, hg, -⟩ := hk; have eg : ρ 51 = (.bool false) := hg; simp [wantedR, Region.wanted, asBoolR, eg]) ?_ ?_
        · rintro ρ w' he ⟨h64, h76, -⟩
          have e64 : ρ 64 = (.bool true) := h64
          have e76 : ρ 76 = (.bool false) := h76
          simp [execOp, evR, e64, e76, go_sem]
        refine tele_val rfl (.bool false) (fun _ _ _ => rfl) ?_ ?_
        · rintro ρ w' he ⟨h51, h77, -⟩
          have e51 : ρ 51 = (.bool false) := h51
          have e77 : ρ 77 = (.bool false) := h77
          simp [execOp, evR, e51, e77, go_sem]
        refine tele_nil ?_
        rintro ρ w' hext ⟨f78, f77, f76, f75, f74, f73, f72, f71, f70, f69, f68, f67, f66, f65, f64, f63, f62, f61, f60, f59, f58, f57, f56, f55, f54, f53, f52, f51, f50, f49, f48, f47, f46, f45, f44, f43, f42, f41, f40, f39, -⟩
        replace f39 : ρ 39 = (.slice (some ⟨bx, ox, none⟩) n cx) := f39
        replace f40 : ρ 40 = (.int .i64 (k : Int)) := f40
        replace f41 : ρ 41 = (.int .i64 ((k - 1 : Nat) : Int)) := f41
        replace f42 : ρ 42 = (.pointer (some ⟨bx, ox + (k - 1) * 4, none⟩)) := f42
        replace f43 : ρ 43 = (.pointer (some ⟨bx, ox + (k - 1) * 4, none⟩)) := f43
        replace f44 : ρ 44 = (strV ka) := f44
        replace f45 : ρ 45 = (.slice (some ⟨bx, ox, none⟩) n cx) := f45
        replace f46 : ρ 46 = (.int .i64 (k : Int)) := f46
        replace f47 : ρ 47 = (.pointer (some ⟨bx, ox + k * 4, none⟩)) := f47
        replace f48 : ρ 48 = (.pointer (some ⟨bx, ox + k * 4, none⟩)) := f48
        replace f49 : ρ 49 = (strV kb) := f49
        replace f50 : ρ 50 = (.bool false) := f50
        replace f51 : ρ 51 = (.bool false) := f51
        replace f52 : ρ 52 = (.slice (some ⟨bx, ox, none⟩) n cx) := f52
        replace f53 : ρ 53 = (.int .i64 (k : Int)) := f53
        replace f54 : ρ 54 = (.int .i64 ((k - 1 : Nat) : Int)) := f54
        replace f55 : ρ 55 = (.pointer (some ⟨bx, ox + (k - 1) * 4, none⟩)) := f55
        replace f56 : ρ 56 = (.pointer (some ⟨bx, ox + (k - 1) * 4, none⟩)) := f56
        replace f57 : ρ 57 = (strV ka) := f57
        replace f58 : ρ 58 = (.slice (some ⟨bx, ox, none⟩) n cx) := f58
        replace f59 : ρ 59 = (.int .i64 (k : Int)) := f59
        replace f60 : ρ 60 = (.pointer (some ⟨bx, ox + k * 4, none⟩)) := f60
        replace f61 : ρ 61 = (.pointer (some ⟨bx, ox + k * 4, none⟩)) := f61
        replace f62 : ρ 62 = (strV kb) := f62
        replace f63 : ρ 63 = (.bool true) := f63
        replace f64 : ρ 64 = (.bool true) := f64
        replace f65 : ρ 65 = (.slice (some ⟨bx, ox, none⟩) n cx) := f65
        replace f66 : ρ 66 = (.int .i64 (k : Int)) := f66
        replace f67 : ρ 67 = (.int .i64 ((k - 1 : Nat) : Int)) := f67
        replace f68 : ρ 68 = (.pointer (some ⟨bx, ox + (k - 1) * 4, none⟩)) := f68
        replace f69 : ρ 69 = (.pointer (some ⟨bx, ox + (k - 1) * 4 + 1, none⟩)) := f69
        replace f70 : ρ 70 = (.int .i64 ga) := f70
        replace f71 : ρ 71 = (.slice (some ⟨bx, ox, none⟩) n cx) := f71
        replace f72 : ρ 72 = (.int .i64 (k : Int)) := f72
        replace f73 : ρ 73 = (.pointer (some ⟨bx, ox + k * 4, none⟩)) := f73
        replace f74 : ρ 74 = (.pointer (some ⟨bx, ox + k * 4 + 1, none⟩)) := f74
        replace f75 : ρ 75 = (.int .i64 gb) := f75
        replace f76 : ρ 76 = (.bool false) := f76
        replace f77 : ρ 77 = (.bool false) := f77
        replace f78 : ρ 78 = (.bool false) := f78
        simp only [puts, Act.put, List.setIfInBounds_toArray, List.set_cons_zero, List.set_cons_succ]
        rw [f78]
        clear f39
        clear f40
        clear f41
        clear f42
        clear f43
        clear f44
        clear f45
        clear f46
        clear f47
        clear f48
        clear f49
        clear f50
        clear f51
        clear f52
        clear f53
        clear f54
        clear f55
        clear f56
        clear f57
        clear f58
        clear f59
        clear f60
        clear f61
        clear f62
        clear f63
        clear f64
        clear f65
        clear f66
        clear f67
        clear f68
        clear f69
        clear f70
        clear f71
        clear f72
        clear f73
        clear f74
        clear f75
        clear f76
        clear f77
        clear f78
        have HX9 := Lib.hid (HX.out.trans hext)
        clear hext
        go_wp2_with fail
        go_roundw
        case rel => exact ⟨k + 1, by omega, by omega, by go_num, HX9⟩
        case measure => simp [intOf]; omega
    · go_wp2_with fail
      refine (HL.out wr).mono ?_
      rintro e w2 ⟨rfl, hx2⟩
      go_wp2_with fail
      go_ret
      exact ⟨rfl, (HX9.out.trans HX.out).trans hx2⟩
end Go.Proofs.Ytocdifjdeifclaa
