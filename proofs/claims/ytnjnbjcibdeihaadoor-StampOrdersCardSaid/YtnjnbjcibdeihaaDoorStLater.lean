/-
  Slices of stamps; which of them is the last one.
-/
import Derived.Test.YtnjnbjcibdeihaaDoorStLives
import Derived.Test.YtnjnbjcibdeihaaDoorBytes
namespace Go.Proofs.YtnjnbjcibdeihaaDoor
open Go Go.RowKit Mono
set_option linter.unusedVariables false
set_option linter.unusedSimpArgs false

/-- A slice of stamps. -/
def Vs (w : World) (v : Value) (l : List (Int × Int)) : Prop :=
  ∃ A c, v = .slice A l.length c ∧ l.length ≤ c ∧ c ≤ maxLen ∧ (A = none → c = 0) ∧
    (0 < l.length → ∃ b off, A = some ⟨b, off, none⟩ ∧ b < w.heap.size ∧ ∀ i x, l[i]? = some x → w.cell? ⟨b, off + i * 2, none⟩ = some (.int .i64 x.1) ∧ w.cell? ⟨b, off + i * 2 + 1, none⟩ = some (.int .i64 x.2))
theorem Vs.ext {w w' : World} {v : Value} {xs : List (Int × Int)} (h : Vs w v xs) (he : Ext w w') : Vs w' v xs := by
  obtain ⟨A, c, hv, h1, h2, h3, h4⟩ := h
  refine ⟨A, c, hv, h1, h2, h3, fun h0 => ?_⟩
  obtain ⟨b, off, hA, hb, hc⟩ := h4 h0
  exact ⟨b, off, hA, Nat.lt_of_lt_of_le hb he.size, fun i x hx => ⟨(he.cell (p := ⟨b, off + i * 2, none⟩) hb).trans (hc i x hx).1, (he.cell (p := ⟨b, off + i * 2 + 1, none⟩) hb).trans (hc i x hx).2⟩⟩
theorem Vs.at_ {w : World} {v : Value} {l : List (Int × Int)} (h : Vs w v l) : ∃ A c, v = .slice A l.length c ∧ l.length ≤ c ∧ c ≤ 9223372036854775807 ∧ (A = none → c = 0) ∧
    (0 < l.length → ∃ b off, A = some ⟨b, off, none⟩ ∧ b < w.heap.size ∧ ∀ (i : Nat), i < l.length → ∃ x y, l[i]? = some (x, y) ∧ w.cell? ⟨b, off + i * 2, none⟩ = some (.int .i64 x) ∧ w.cell? ⟨b, off + i * 2 + 1, none⟩ = some (.int .i64 y)) := by
  obtain ⟨A, c, hv, h1, h2, h3, h4⟩ := h
  refine ⟨A, c, hv, h1, by unfold maxLen at h2; omega, h3, fun h0 => ?_⟩
  obtain ⟨b, off, hA, hb, hc⟩ := h4 h0
  refine ⟨b, off, hA, hb, fun i hi => ?_⟩
  have hx : l[i]? = some l[i] := List.getElem?_eq_getElem hi
  exact ⟨l[i].1, l[i].2, hx, (hc i _ hx).1, (hc i _ hx).2⟩

def slater (l : List (Int × Int)) : Int × Int := l.foldl (fun o s => if sgood s.1 s.2 = true ∧ sless o.1 o.2 s.1 s.2 = true then s else o) (0, 0)
theorem slater_take {l : List (Int × Int)} {p : Nat} {x y : Int} (h : l[p]? = some (x, y)) :
    slater (l.take (p + 1)) = if sgood x y = true ∧ sless (slater (l.take p)).1 (slater (l.take p)).2 x y = true then (x, y) else slater (l.take p) := by
  unfold slater
  rw [List.take_add_one, h, Option.toList_some, List.foldl_append]
  rfl

set_option maxHeartbeats 4000000 in
theorem stLater_any (v : Value) (l : List (Int × Int)) (w : World) (hv : Vs w v l) :
    Calls Tryd.prog 16 #[v] w fun e w' => e = .returned (stV (slater l).1 (slater l).2) ∧ Ext w w' := by
  have HG := Lib.hid (fun x y w => stGood_any x y w)
  have HS := Lib.hid (fun x y z u w => stLess_any x y z u w)
  unfold stV at HG HS ⊢
  obtain ⟨A, c, rfl, h1, h2, h3, h4⟩ := hv.at_
  have H4 := Lib.hid h4
  clear h4
  go_enter Tryd.func16, Tryd.ntmps16
  go_wp2_with fail
  have bo0 := Blk.new w #[.int .i64 0, .int .i64 0] 23
  have x0 := ext_alloc w (.cells #[.int .i64 0, .int .i64 0] 23)
  have G1 : w.heap.size ≤ w.heap.size := Nat.le_refl _
  go_loopw [7] (fun i wr => ∃ k : Nat, k ≤ l.length ∧ i = .int .i64 k ∧ Blk wr w.heap.size [.int .i64 (slater (l.take k)).1, .int .i64 (slater (l.take k)).2] ∧ Ext w wr) (fun i _ => l.length - (intOf i).toNat)
  case atStart => exact ⟨0, Nat.zero_le _, rfl, bo0, x0⟩
  case round =>
    obtain ⟨k, hk, rfl, bo, hx⟩ := hrel
    clear bo0 x0
    by_cases hlt : k < l.length
    · obtain ⟨b, off, rfl, hb, hcell⟩ := H4.out (by omega)
      obtain ⟨x, y, hget, hc1, hc2⟩ := hcell k hlt
      replace hc1 := (hx.cell (p := ⟨b, off + k * 2, none⟩) hb).trans hc1
      replace hc2 := (hx.cell (p := ⟨b, off + k * 2 + 1, none⟩) hb).trans hc2
      have HT := Lib.hid (slater_take hget)
      generalize slater (l.take k) = o at *
      obtain ⟨o1, o2⟩ := o
      dsimp only at HT bo
      clear hget hcell
      go_wp2_with fail
      have bs := Blk.new wr #[.int .i64 x, .int .i64 y] 23
      have xs := ext_alloc wr (.cells #[.int .i64 x, .int .i64 y] 23)
      refine (HG.out _ _ _).mono ?_
      rintro e w1 ⟨rfl, x1⟩
      replace bs := bs.ext x1
      replace bo := (bo.ext xs).ext x1
      replace hx := Ext.trans hx (Ext.trans xs x1)
      clear xs x1
      have bsc0 := bs.cell (i := 0) rfl
      have bsc1 := bs.cell (i := 1) rfl
      have boc0 := bo.cell (i := 0) rfl
      have boc1 := bo.cell (i := 1) rfl
      cases hg : sgood x y
      · have HR := Lib.hid (show slater (l.take (k + 1)) = (o1, o2) by rw [HT.out, if_neg (by simp [hg])])
        clear hg
        go_wp2_with fail
        go_roundw
        case rel => exact ⟨k + 1, by omega, by go_num, by rw [HR.out]; exact bo, hx⟩
        case measure => simp [intOf]; omega
      · have HQ := Lib.hid hg
        clear hg
        go_wp2_with fail
        refine (HS.out _ _ _ _ _).mono ?_
        rintro e w2 ⟨rfl, x2⟩
        replace bs := bs.ext x2
        replace bo := bo.ext x2
        replace hx := Ext.trans hx x2
        clear x2 bsc0 bsc1 boc0 boc1
        have bsc0 := bs.cell (i := 0) rfl
        have bsc1 := bs.cell (i := 1) rfl
        have boc0 := bo.cell (i := 0) rfl
        have boc1 := bo.cell (i := 1) rfl
        have boz0 := bo.thaw 0
        have boz1 := bo.thaw 1
        cases hl : sless o1 o2 x y
        · have HR := Lib.hid (show slater (l.take (k + 1)) = (o1, o2) by rw [HT.out, if_neg (by simp [hl])])
          clear hl
          go_wp2_with fail
          go_roundw
          case rel => exact ⟨k + 1, by omega, by go_num, by rw [HR.out]; exact bo, hx⟩
          case measure => simp [intOf]; omega
        · have HR := Lib.hid (show slater (l.take (k + 1)) = (x, y) by rw [HT.out, if_pos ⟨HQ.out, hl⟩])
          clear hl
          go_wp2_with fail
          go_roundw
          case rel => exact ⟨k + 1, by omega, by go_num, by rw [HR.out]; exact (bo.set 0 (.int .i64 x)).set 1 (.int .i64 y), Below.setCell (Below.setCell hx G1 _) G1 _⟩
          case measure => simp [intOf]; omega
    · obtain rfl : k = l.length := by omega
      rw [List.take_length] at bo
      have boc0 := bo.cell (i := 0) rfl
      have boc1 := bo.cell (i := 1) rfl
      have boz0 := bo.thaw 0
      have boz1 := bo.thaw 1
      go_wp2_with fail
      have bo2 := (bo.set 0 (.int .i64 (slater l).1)).set 1 (.int .i64 (slater l).2)
      have d0 := bo2.cell (i := 0) rfl
      have d1 := bo2.cell (i := 1) rfl
      exact bodyPost_ret (v := .agg #[.int .i64 (slater l).1, .int .i64 (slater l).2]) (by simp [results, Tryd.results16, d0, d1, go_sem]) rfl ⟨rfl, Below.setCell (Below.setCell hx G1 _) G1 _⟩

set_option maxHeartbeats 4000000 in
theorem refLater_any (v : Value) (l : List (Int × Int)) (w : World) (hv : Vs w v l) :
    Calls Tryd.prog 17 #[v] w fun e w' => e = .returned (stV (slater l).1 (slater l).2) ∧ Ext w w' := by
  have HG := Lib.hid (fun x y w => refSGood_any x y w)
  have HS := Lib.hid (fun x y z u w => refSLess_any x y z u w)
  unfold stV at HG HS ⊢
  obtain ⟨A, c, rfl, h1, h2, h3, h4⟩ := hv.at_
  have H4 := Lib.hid h4
  clear h4
  go_enter Tryd.func17, Tryd.ntmps17
  go_wp2_with fail
  have bo0 := Blk.new (w.alloc (.cells #[.int .i64 0, .int .i64 0] 23)) #[.int .i64 0, .int .i64 0] 23
  have br0 := (Blk.new w #[.int .i64 0, .int .i64 0] 23).ext (ext_alloc _ (.cells #[.int .i64 0, .int .i64 0] 23))
  have x0 := Ext.trans (ext_alloc w (.cells #[.int .i64 0, .int .i64 0] 23)) (ext_alloc (w.alloc (.cells #[.int .i64 0, .int .i64 0] 23)) (.cells #[.int .i64 0, .int .i64 0] 23))
  simp only [World.size_alloc] at bo0
  have G1 : w.heap.size ≤ w.heap.size := Nat.le_refl _
  have G2 : w.heap.size ≤ w.heap.size + 1 := by omega
  have G3 : w.heap.size + 1 ≠ w.heap.size := by omega
  go_loopw [4] (fun i wr => ∃ k : Nat, k ≤ l.length ∧ i = .int .i64 k ∧ Blk wr (w.heap.size + 1) [.int .i64 (slater (l.take k)).1, .int .i64 (slater (l.take k)).2] ∧ Blk wr w.heap.size [.int .i64 0, .int .i64 0] ∧ Ext w wr) (fun i _ => l.length - (intOf i).toNat)
  case atStart => exact ⟨0, Nat.zero_le _, rfl, bo0, br0, x0⟩
  case round =>
    obtain ⟨k, hk, rfl, bo, br, hx⟩ := hrel
    clear bo0 br0 x0
    by_cases hlt : k < l.length
    · obtain ⟨b, off, rfl, hb, hcell⟩ := H4.out (by omega)
      obtain ⟨x, y, hget, hc1, hc2⟩ := hcell k hlt
      have C1 := Lib.hid hc1
      have C2 := Lib.hid hc2
      replace hc1 := (hx.cell (p := ⟨b, off + k * 2, none⟩) hb).trans hc1
      replace hc2 := (hx.cell (p := ⟨b, off + k * 2 + 1, none⟩) hb).trans hc2
      have HT := Lib.hid (slater_take hget)
      generalize slater (l.take k) = o at *
      obtain ⟨o1, o2⟩ := o
      dsimp only at HT bo
      clear hget hcell
      have hbw := Nat.lt_of_lt_of_le hb hx.size
      have hkl : (k : Int) < (l.length : Int) := by omega
      have hkl2 : ¬ (l.length : Int) ≤ (k : Int) := by omega
      have hz0 : ¬ (k : Int) < 0 := by omega
      cases hg : sgood x y
      · have HR := Lib.hid (show slater (l.take (k + 1)) = (o1, o2) by rw [HT.out, if_neg (by simp [hg])])
        have HQ := Lib.hid hg
        clear hg
        go_wp2_with fail
        refine wp_region_mono (by kernel_rfl) (by kernel_rfl) ?_
        refine tele_move rfl (.inl rfl) rfl (isV (.slice (some ⟨b, off, none⟩) l.length c)) (fun ρ w' h => h) ?_
        refine tele_move rfl (.inl rfl) rfl (isV (.int .i64 (k : Int))) (fun ρ w' h => h) ?_
        refine tele_val rfl (.pointer (some ⟨b, off + k * 2, none⟩)) (fun _ _ _ => rfl) ?_ ?_
        · rintro ρ w' he ⟨h11, h12, -⟩
          have e11 : ρ 11 = (.slice (some ⟨b, off, none⟩) l.length c) := h11
          have e12 : ρ 12 = (.int .i64 (k : Int)) := h12
          simp [execOp, evR, e11, e12, hkl, hkl2, hz0, add_at, go_sem]
        refine tele_val rfl (.agg #[.int .i64 x, .int .i64 y]) (fun _ _ _ => rfl) ?_ ?_
        · rintro ρ w' he ⟨h13, -⟩
          have e13 : ρ 13 = (.pointer (some ⟨b, off + k * 2, none⟩)) := h13
          have c1 := (he.cell (p := ⟨b, off + k * 2, none⟩) hbw).trans hc1
          have c2 := (he.cell (p := ⟨b, off + k * 2 + 1, none⟩) hbw).trans hc2
          simp [execOp, evR, e13, c1, c2, go_sem]
        refine tele_call rfl rfl Tryd.func14 (by kernel_rfl) (isV (.bool false)) (fun _ _ _ => rfl) ?_ ?_
        · rintro ρ w' he ⟨h14, -⟩
          have e14 : ρ 14 = (.agg #[.int .i64 x, .int .i64 y]) := h14
          simp only [evR, List.map_toArray, List.map_cons, List.map_nil, e14]
          refine (HG.out x y _).mono ?_
          rintro e w'' ⟨rfl, he⟩
          exact ⟨_, rfl, he, by rw [HQ.out]; rfl⟩
        refine tele_move rfl (.inl rfl) rfl (isV (.bool false)) (fun ρ w' h => h) ?_
        refine tele_pass rfl (fun ρ w' hk => by obtain ⟨_, hg, -⟩ := hk; have eg : ρ 16 = (.bool false) := hg; simp [wantedR, Region.wanted, asBoolR, eg]) ?_
        refine tele_pass rfl (fun ρ w' hk => by obtain ⟨_, hg, -⟩ := hk; have eg : ρ 16 = (.bool false) := hg; simp [wantedR, Region.wanted, asBoolR, eg]) ?_
        refine tele_pass rfl (fun ρ w' hk => by obtain ⟨_, hg, -⟩ := hk; have eg : ρ 16 = (.bool false) := hg; simp [wantedR, Region.wanted, asBoolR, eg]) ?_
        refine tele_pass rfl (fun ρ w' hk => by obtain ⟨_, _, hg, -⟩ := hk; have eg : ρ 16 = (.bool false) := hg; simp [wantedR, Region.wanted, asBoolR, eg]) ?_
        refine tele_pass rfl (fun ρ w' hk => by obtain ⟨_, hg, -⟩ := hk; have eg : ρ 16 = (.bool false) := hg; simp [wantedR, Region.wanted, asBoolR, eg]) ?_
        refine tele_pass rfl (fun ρ w' hk => by obtain ⟨_, _, hg, -⟩ := hk; have eg : ρ 16 = (.bool false) := hg; simp [wantedR, Region.wanted, asBoolR, eg]) ?_
        refine tele_val rfl (.bool false) (fun _ _ _ => rfl) ?_ ?_
        · rintro ρ w' he ⟨h16, h22, -⟩
          have e16 : ρ 16 = (.bool false) := h16
          have e22 : ρ 22 = undef := h22
          simp [execOp, evR, e16, e22, go_sem]
        refine tele_nil ?_
        rintro ρ w' hext ⟨f23, f22, f21, f20, f19, f18, f17, f16, f15, f14, f13, f12, f11, -⟩
        replace f11 : ρ 11 = (.slice (some ⟨b, off, none⟩) l.length c) := f11
        replace f12 : ρ 12 = (.int .i64 (k : Int)) := f12
        replace f13 : ρ 13 = (.pointer (some ⟨b, off + k * 2, none⟩)) := f13
        replace f14 : ρ 14 = (.agg #[.int .i64 x, .int .i64 y]) := f14
        replace f15 : ρ 15 = (.bool false) := f15
        replace f16 : ρ 16 = (.bool false) := f16
        replace f17 : ρ 17 = undef := f17
        replace f18 : ρ 18 = undef := f18
        replace f19 : ρ 19 = undef := f19
        replace f20 : ρ 20 = undef := f20
        replace f21 : ρ 21 = undef := f21
        replace f22 : ρ 22 = undef := f22
        replace f23 : ρ 23 = (.bool false) := f23
        simp only [puts, Act.put, List.setIfInBounds_toArray, List.set_cons_zero, List.set_cons_succ]
        rw [f23]
        go_wp2_with fail
        go_roundw
        case rel => exact ⟨k + 1, by omega, by go_num, by rw [HR.out]; exact bo.ext hext, br.ext hext, Ext.trans hx hext⟩
        case measure => simp [intOf]; omega
      · have HQ := Lib.hid hg
        clear hg
        cases hl : sless o1 o2 x y
        · have HR := Lib.hid (show slater (l.take (k + 1)) = (o1, o2) by rw [HT.out, if_neg (by simp [hl])])
          have HW := Lib.hid hl
          clear hl
          go_wp2_with fail
          refine wp_region_mono (by kernel_rfl) (by kernel_rfl) ?_
          refine tele_move rfl (.inl rfl) rfl (isV (.slice (some ⟨b, off, none⟩) l.length c)) (fun ρ w' h => h) ?_
          refine tele_move rfl (.inl rfl) rfl (isV (.int .i64 (k : Int))) (fun ρ w' h => h) ?_
          refine tele_val rfl (.pointer (some ⟨b, off + k * 2, none⟩)) (fun _ _ _ => rfl) ?_ ?_
          · rintro ρ w' he ⟨h11, h12, -⟩
            have e11 : ρ 11 = (.slice (some ⟨b, off, none⟩) l.length c) := h11
            have e12 : ρ 12 = (.int .i64 (k : Int)) := h12
            simp [execOp, evR, e11, e12, hkl, hkl2, hz0, add_at, go_sem]
          refine tele_val rfl (.agg #[.int .i64 x, .int .i64 y]) (fun _ _ _ => rfl) ?_ ?_
          · rintro ρ w' he ⟨h13, -⟩
            have e13 : ρ 13 = (.pointer (some ⟨b, off + k * 2, none⟩)) := h13
            have c1 := (he.cell (p := ⟨b, off + k * 2, none⟩) hbw).trans hc1
            have c2 := (he.cell (p := ⟨b, off + k * 2 + 1, none⟩) hbw).trans hc2
            simp [execOp, evR, e13, c1, c2, go_sem]
          refine tele_call rfl rfl Tryd.func14 (by kernel_rfl) (isV (.bool true)) (fun _ _ _ => rfl) ?_ ?_
          · rintro ρ w' he ⟨h14, -⟩
            have e14 : ρ 14 = (.agg #[.int .i64 x, .int .i64 y]) := h14
            simp only [evR, List.map_toArray, List.map_cons, List.map_nil, e14]
            refine (HG.out x y _).mono ?_
            rintro e w'' ⟨rfl, he⟩
            exact ⟨_, rfl, he, by rw [HQ.out]; rfl⟩
          refine tele_move rfl (.inl rfl) rfl (isV (.bool true)) (fun ρ w' h => h) ?_
          refine tele_val rfl (.agg #[.int .i64 o1, .int .i64 o2]) (fun ρ w' hk => by obtain ⟨_, hg, -⟩ := hk; have eg : ρ 16 = (.bool true) := hg; simp [wantedR, Region.wanted, asBoolR, eg]) ?_ ?_
          · rintro ρ w' he ⟨h3, -⟩
            have e3 : ρ 3 = (.pointer (some ⟨w.heap.size + 1, 0, none⟩)) := h3
            have c1 := (bo.ext he).cell (i := 0) rfl
            have c2 := (bo.ext he).cell (i := 1) rfl
            simp [execOp, evR, e3, c1, c2, go_sem]
          refine tele_val rfl ((.slice (some ⟨b, off, none⟩) l.length c)) (fun ρ w' hk => by obtain ⟨_, hg, -⟩ := hk; have eg : ρ 16 = (.bool true) := hg; simp [wantedR, Region.wanted, asBoolR, eg]) ?_ ?_
          · rintro ρ w' he ⟨h0, -⟩
            have e0 : ρ 0 = (.slice (some ⟨b, off, none⟩) l.length c) := h0
            simp [execOp, evR, e0]
          refine tele_val rfl ((.int .i64 (k : Int))) (fun ρ w' hk => by obtain ⟨_, hg, -⟩ := hk; have eg : ρ 16 = (.bool true) := hg; simp [wantedR, Region.wanted, asBoolR, eg]) ?_ ?_
          · rintro ρ w' he ⟨h4, -⟩
            have e4 : ρ 4 = (.int .i64 (k : Int)) := h4
            simp [execOp, evR, e4]
          refine tele_val rfl (.pointer (some ⟨b, off + k * 2, none⟩)) (fun ρ w' hk => by obtain ⟨_, _, hg, -⟩ := hk; have eg : ρ 16 = (.bool true) := hg; simp [wantedR, Region.wanted, asBoolR, eg]) ?_ ?_
          · rintro ρ w' he ⟨h18, h19, -⟩
            have e18 : ρ 18 = (.slice (some ⟨b, off, none⟩) l.length c) := h18
            have e19 : ρ 19 = (.int .i64 (k : Int)) := h19
            simp [execOp, evR, e18, e19, hkl, hkl2, hz0, add_at, go_sem]
          refine tele_val rfl (.agg #[.int .i64 x, .int .i64 y]) (fun ρ w' hk => by obtain ⟨_, hg, -⟩ := hk; have eg : ρ 16 = (.bool true) := hg; simp [wantedR, Region.wanted, asBoolR, eg]) ?_ ?_
          · rintro ρ w' he ⟨h20, -⟩
            have e20 : ρ 20 = (.pointer (some ⟨b, off + k * 2, none⟩)) := h20
            have c1 := (he.cell (p := ⟨b, off + k * 2, none⟩) hbw).trans hc1
            have c2 := (he.cell (p := ⟨b, off + k * 2 + 1, none⟩) hbw).trans hc2
            simp [execOp, evR, e20, c1, c2, go_sem]
          refine tele_call rfl rfl Tryd.func15 (by kernel_rfl) (isV (.bool false)) (fun ρ w' hk => by obtain ⟨_, _, hg, -⟩ := hk; have eg : ρ 16 = (.bool true) := hg; simp [wantedR, Region.wanted, asBoolR, eg]) ?_ ?_
          · rintro ρ w' he ⟨h17, h21, -⟩
            have e17 : ρ 17 = (.agg #[.int .i64 o1, .int .i64 o2]) := h17
            have e21 : ρ 21 = (.agg #[.int .i64 x, .int .i64 y]) := h21
            simp only [evR, List.map_toArray, List.map_cons, List.map_nil, e17, e21]
            refine (HS.out o1 o2 x y _).mono ?_
            rintro e w'' ⟨rfl, he⟩
            exact ⟨_, rfl, he, by rw [HW.out]; rfl⟩
          refine tele_val rfl (.bool false) (fun _ _ _ => rfl) ?_ ?_
          · rintro ρ w' he ⟨h16, h22, -⟩
            have e16 : ρ 16 = (.bool true) := h16
            have e22 : ρ 22 = (.bool false) := h22
            simp [execOp, evR, e16, e22, go_sem]
          refine tele_nil ?_
          rintro ρ w' hext ⟨f23, f22, f21, f20, f19, f18, f17, f16, f15, f14, f13, f12, f11, -⟩
          replace f11 : ρ 11 = (.slice (some ⟨b, off, none⟩) l.length c) := f11
          replace f12 : ρ 12 = (.int .i64 (k : Int)) := f12
          replace f13 : ρ 13 = (.pointer (some ⟨b, off + k * 2, none⟩)) := f13
          replace f14 : ρ 14 = (.agg #[.int .i64 x, .int .i64 y]) := f14
          replace f15 : ρ 15 = (.bool true) := f15
          replace f16 : ρ 16 = (.bool true) := f16
          replace f17 : ρ 17 = (.agg #[.int .i64 o1, .int .i64 o2]) := f17
          replace f18 : ρ 18 = (.slice (some ⟨b, off, none⟩) l.length c) := f18
          replace f19 : ρ 19 = (.int .i64 (k : Int)) := f19
          replace f20 : ρ 20 = (.pointer (some ⟨b, off + k * 2, none⟩)) := f20
          replace f21 : ρ 21 = (.agg #[.int .i64 x, .int .i64 y]) := f21
          replace f22 : ρ 22 = (.bool false) := f22
          replace f23 : ρ 23 = (.bool false) := f23
          simp only [puts, Act.put, List.setIfInBounds_toArray, List.set_cons_zero, List.set_cons_succ]
          rw [f23]
          go_wp2_with fail
          go_roundw
          case rel => exact ⟨k + 1, by omega, by go_num, by rw [HR.out]; exact bo.ext hext, br.ext hext, Ext.trans hx hext⟩
          case measure => simp [intOf]; omega
        · have HR := Lib.hid (show slater (l.take (k + 1)) = (x, y) by rw [HT.out, if_pos ⟨HQ.out, hl⟩])
          have HW := Lib.hid hl
          clear hl
          go_wp2_with fail
          refine wp_region_mono (by kernel_rfl) (by kernel_rfl) ?_
          refine tele_move rfl (.inl rfl) rfl (isV (.slice (some ⟨b, off, none⟩) l.length c)) (fun ρ w' h => h) ?_
          refine tele_move rfl (.inl rfl) rfl (isV (.int .i64 (k : Int))) (fun ρ w' h => h) ?_
          refine tele_val rfl (.pointer (some ⟨b, off + k * 2, none⟩)) (fun _ _ _ => rfl) ?_ ?_
          · rintro ρ w' he ⟨h11, h12, -⟩
            have e11 : ρ 11 = (.slice (some ⟨b, off, none⟩) l.length c) := h11
            have e12 : ρ 12 = (.int .i64 (k : Int)) := h12
            simp [execOp, evR, e11, e12, hkl, hkl2, hz0, add_at, go_sem]
          refine tele_val rfl (.agg #[.int .i64 x, .int .i64 y]) (fun _ _ _ => rfl) ?_ ?_
          · rintro ρ w' he ⟨h13, -⟩
            have e13 : ρ 13 = (.pointer (some ⟨b, off + k * 2, none⟩)) := h13
            have c1 := (he.cell (p := ⟨b, off + k * 2, none⟩) hbw).trans hc1
            have c2 := (he.cell (p := ⟨b, off + k * 2 + 1, none⟩) hbw).trans hc2
            simp [execOp, evR, e13, c1, c2, go_sem]
          refine tele_call rfl rfl Tryd.func14 (by kernel_rfl) (isV (.bool true)) (fun _ _ _ => rfl) ?_ ?_
          · rintro ρ w' he ⟨h14, -⟩
            have e14 : ρ 14 = (.agg #[.int .i64 x, .int .i64 y]) := h14
            simp only [evR, List.map_toArray, List.map_cons, List.map_nil, e14]
            refine (HG.out x y _).mono ?_
            rintro e w'' ⟨rfl, he⟩
            exact ⟨_, rfl, he, by rw [HQ.out]; rfl⟩
          refine tele_move rfl (.inl rfl) rfl (isV (.bool true)) (fun ρ w' h => h) ?_
          refine tele_val rfl (.agg #[.int .i64 o1, .int .i64 o2]) (fun ρ w' hk => by obtain ⟨_, hg, -⟩ := hk; have eg : ρ 16 = (.bool true) := hg; simp [wantedR, Region.wanted, asBoolR, eg]) ?_ ?_
          · rintro ρ w' he ⟨h3, -⟩
            have e3 : ρ 3 = (.pointer (some ⟨w.heap.size + 1, 0, none⟩)) := h3
            have c1 := (bo.ext he).cell (i := 0) rfl
            have c2 := (bo.ext he).cell (i := 1) rfl
            simp [execOp, evR, e3, c1, c2, go_sem]
          refine tele_val rfl ((.slice (some ⟨b, off, none⟩) l.length c)) (fun ρ w' hk => by obtain ⟨_, hg, -⟩ := hk; have eg : ρ 16 = (.bool true) := hg; simp [wantedR, Region.wanted, asBoolR, eg]) ?_ ?_
          · rintro ρ w' he ⟨h0, -⟩
            have e0 : ρ 0 = (.slice (some ⟨b, off, none⟩) l.length c) := h0
            simp [execOp, evR, e0]
          refine tele_val rfl ((.int .i64 (k : Int))) (fun ρ w' hk => by obtain ⟨_, hg, -⟩ := hk; have eg : ρ 16 = (.bool true) := hg; simp [wantedR, Region.wanted, asBoolR, eg]) ?_ ?_
          · rintro ρ w' he ⟨h4, -⟩
            have e4 : ρ 4 = (.int .i64 (k : Int)) := h4
            simp [execOp, evR, e4]
          refine tele_val rfl (.pointer (some ⟨b, off + k * 2, none⟩)) (fun ρ w' hk => by obtain ⟨_, _, hg, -⟩ := hk; have eg : ρ 16 = (.bool true) := hg; simp [wantedR, Region.wanted, asBoolR, eg]) ?_ ?_
          · rintro ρ w' he ⟨h18, h19, -⟩
            have e18 : ρ 18 = (.slice (some ⟨b, off, none⟩) l.length c) := h18
            have e19 : ρ 19 = (.int .i64 (k : Int)) := h19
            simp [execOp, evR, e18, e19, hkl, hkl2, hz0, add_at, go_sem]
          refine tele_val rfl (.agg #[.int .i64 x, .int .i64 y]) (fun ρ w' hk => by obtain ⟨_, hg, -⟩ := hk; have eg : ρ 16 = (.bool true) := hg; simp [wantedR, Region.wanted, asBoolR, eg]) ?_ ?_
          · rintro ρ w' he ⟨h20, -⟩
            have e20 : ρ 20 = (.pointer (some ⟨b, off + k * 2, none⟩)) := h20
            have c1 := (he.cell (p := ⟨b, off + k * 2, none⟩) hbw).trans hc1
            have c2 := (he.cell (p := ⟨b, off + k * 2 + 1, none⟩) hbw).trans hc2
            simp [execOp, evR, e20, c1, c2, go_sem]
          refine tele_call rfl rfl Tryd.func15 (by kernel_rfl) (isV (.bool true)) (fun ρ w' hk => by obtain ⟨_, _, hg, -⟩ := hk; have eg : ρ 16 = (.bool true) := hg; simp [wantedR, Region.wanted, asBoolR, eg]) ?_ ?_
          · rintro ρ w' he ⟨h17, h21, -⟩
            have e17 : ρ 17 = (.agg #[.int .i64 o1, .int .i64 o2]) := h17
            have e21 : ρ 21 = (.agg #[.int .i64 x, .int .i64 y]) := h21
            simp only [evR, List.map_toArray, List.map_cons, List.map_nil, e17, e21]
            refine (HS.out o1 o2 x y _).mono ?_
            rintro e w'' ⟨rfl, he⟩
            exact ⟨_, rfl, he, by rw [HW.out]; rfl⟩
          refine tele_val rfl (.bool true) (fun _ _ _ => rfl) ?_ ?_
          · rintro ρ w' he ⟨h16, h22, -⟩
            have e16 : ρ 16 = (.bool true) := h16
            have e22 : ρ 22 = (.bool true) := h22
            simp [execOp, evR, e16, e22, go_sem]
          refine tele_nil ?_
          rintro ρ w' hext ⟨f23, f22, f21, f20, f19, f18, f17, f16, f15, f14, f13, f12, f11, -⟩
          replace f11 : ρ 11 = (.slice (some ⟨b, off, none⟩) l.length c) := f11
          replace f12 : ρ 12 = (.int .i64 (k : Int)) := f12
          replace f13 : ρ 13 = (.pointer (some ⟨b, off + k * 2, none⟩)) := f13
          replace f14 : ρ 14 = (.agg #[.int .i64 x, .int .i64 y]) := f14
          replace f15 : ρ 15 = (.bool true) := f15
          replace f16 : ρ 16 = (.bool true) := f16
          replace f17 : ρ 17 = (.agg #[.int .i64 o1, .int .i64 o2]) := f17
          replace f18 : ρ 18 = (.slice (some ⟨b, off, none⟩) l.length c) := f18
          replace f19 : ρ 19 = (.int .i64 (k : Int)) := f19
          replace f20 : ρ 20 = (.pointer (some ⟨b, off + k * 2, none⟩)) := f20
          replace f21 : ρ 21 = (.agg #[.int .i64 x, .int .i64 y]) := f21
          replace f22 : ρ 22 = (.bool true) := f22
          replace f23 : ρ 23 = (.bool true) := f23
          simp only [puts, Act.put, List.setIfInBounds_toArray, List.set_cons_zero, List.set_cons_succ]
          replace bo := bo.ext hext
          replace br := br.ext hext
          replace hx := Ext.trans hx hext
          replace hc1 := (hext.cell (p := ⟨b, off + k * 2, none⟩) hbw).trans hc1
          replace hc2 := (hext.cell (p := ⟨b, off + k * 2 + 1, none⟩) hbw).trans hc2
          have boc0 := bo.cell (i := 0) rfl
          have boc1 := bo.cell (i := 1) rfl
          have boz0 := bo.thaw 0
          have boz1 := bo.thaw 1
          rw [f23]
          go_wp2_with fail
          have br2 := br.below (Below.setCell (Below.setCell (Below.refl (w.heap.size + 1) w') (p := ⟨w.heap.size + 1, 0, none⟩) (Nat.le_refl _) (.int .i64 x)) (p := ⟨w.heap.size + 1, 1, none⟩) (Nat.le_refl _) (.int .i64 y)) (by omega)
          go_roundw
          case rel => exact ⟨k + 1, by omega, by go_num, by rw [HR.out]; exact (bo.set 0 (.int .i64 x)).set 1 (.int .i64 y), br2, Below.setCell (Below.setCell hx G2 _) G2 _⟩
          case measure => simp [intOf]; omega
    · obtain rfl : k = l.length := by omega
      rw [List.take_length] at bo
      have boc0 := bo.cell (i := 0) rfl
      have boc1 := bo.cell (i := 1) rfl
      have brc0 := br.cell (i := 0) rfl
      have brc1 := br.cell (i := 1) rfl
      have brz0 := br.thaw 0
      have brz1 := br.thaw 1
      go_wp2_with fail
      have bo2 := (br.set 0 (.int .i64 (slater l).1)).set 1 (.int .i64 (slater l).2)
      have d0 := bo2.cell (i := 0) rfl
      have d1 := bo2.cell (i := 1) rfl
      exact bodyPost_ret (v := .agg #[.int .i64 (slater l).1, .int .i64 (slater l).2]) (by simp [results, Tryd.results17, d0, d1, go_sem]) rfl ⟨rfl, Below.setCell (Below.setCell hx G1 _) G1 _⟩
end Go.Proofs.YtnjnbjcibdeihaaDoor
