/-
  The walks of layer 6, the third part: Join.
-/
import Derived.Test.YtfhahkklkkdkoaaVecFns2
namespace Go.Proofs.Ytfhahkklkkdkoaa
open Go.RowKit Mono
set_option linter.unusedSimpArgs false
set_option linter.unusedVariables false

/-- A slice of counts. -/
def Vs (w : World) (v : Value) (l : List (Int × Int)) : Prop :=
  ∃ A c, v = .slice A l.length c ∧ l.length ≤ c ∧ c ≤ maxLen ∧ (A = none → c = 0) ∧
    (0 < l.length → ∃ b off, A = some ⟨b, off, none⟩ ∧ b < w.heap.size ∧ ∀ i x, l[i]? = some x → w.cell? ⟨b, off + i * 2, none⟩ = some (.int .i64 x.1) ∧ w.cell? ⟨b, off + i * 2 + 1, none⟩ = some (.int .i64 x.2))
theorem Vs.ext {w w' : World} {v : Value} {xs : List (Int × Int)} (h : Vs w v xs) (he : Ext w w') : Vs w' v xs := by
  obtain ⟨A, c, hv, h1, h2, h3, h4⟩ := h
  refine ⟨A, c, hv, h1, h2, h3, fun h0 => ?_⟩
  obtain ⟨b, off, hA, hb, hc⟩ := h4 h0
  exact ⟨b, off, hA, Nat.lt_of_lt_of_le hb he.size, fun i x hx => ⟨he.at hb (hc i x hx).1, he.at hb (hc i x hx).2⟩⟩
theorem Vs.two (w : World) (T : TypeId) (a b c d : Int) : Vs (w.alloc (.cells #[.int .i64 a, .int .i64 b, .int .i64 c, .int .i64 d] T)) (.slice (some ⟨w.heap.size, 0, none⟩) 2 2) [(a, b), (c, d)] := by
  have h := Blk.new w #[.int .i64 a, .int .i64 b, .int .i64 c, .int .i64 d] T
  refine ⟨_, 2, rfl, Nat.le_refl _, by decide, by simp, fun _ => ⟨_, 0, rfl, by simp, fun i x hx => ?_⟩⟩
  match i, hx with
  | 0, hx => obtain rfl : (a, b) = x := by simpa using hx
             exact ⟨h.cell (i := 0) rfl, h.cell (i := 1) rfl⟩
  | 1, hx => obtain rfl : (c, d) = x := by simpa using hx
             exact ⟨h.cell (i := 2) rfl, h.cell (i := 3) rfl⟩
  | i + 2, hx => simp at hx

def vjoin (l : List (Int × Int)) : Int × Int := l.foldl (fun o v => (max o.1 v.1, max o.2 v.2)) (0, 0)
theorem vjoin_take {l : List (Int × Int)} {p : Nat} (hp : p < l.length) : vjoin (l.take (p + 1)) = (max (vjoin (l.take p)).1 l[p].1, max (vjoin (l.take p)).2 l[p].2) := by
  unfold vjoin
  rw [List.take_succ_eq_append_getElem hp, List.foldl_append]
  rfl

set_option maxHeartbeats 800000 in
theorem vecJoin_any (v : Value) (l : List (Int × Int)) (w : World) (hv : Vs w v l) : Calls Try.prog 10 #[v] w fun e w' => e = .returned (vecV (vjoin l).1 (vjoin l).2) ∧ Ext w w' := by
  obtain ⟨A, c, rfl, h1, h2, h3, h4⟩ := id hv
  unfold maxLen at h2
  go_enter Try.func10, Try.ntmps10
  go_wp2_with fail
  have hx0 : Ext w (w.alloc (.cells #[.int .i64 0, .int .i64 0] 25)) := ext_alloc _ _
  have bo0 := Blk.new w #[.int .i64 0, .int .i64 0] 25
  go_loopw [7] (fun at_ wr => ∃ (p : Nat) (x y : Int), p ≤ l.length ∧ at_ = .int .i64 p ∧ vjoin (l.take p) = (x, y) ∧ Blk wr w.heap.size [.int .i64 x, .int .i64 y] ∧ Ext w wr) (fun a _ => l.length - (intOf a).toNat)
  case atStart => exact ⟨0, 0, 0, Nat.zero_le _, rfl, rfl, bo0, hx0⟩
  case round =>
    obtain ⟨p, x, y, hpl, rfl, hj, bo, hx⟩ := hrel
    have HJ := Lib.hid hj
    have HX := Lib.hid hx
    clear bo0 hx0
    by_cases hlt : p < l.length
    · obtain ⟨b, off, rfl, hb, hc⟩ := h4 (by omega)
      obtain ⟨cx, cy⟩ := hc p l[p] (List.getElem?_eq_getElem hlt)
      have cp0 := hx.at hb cx
      have cp1 := hx.at hb cy
      have hjt := vjoin_take hlt
      rw [hj] at hjt
      have HT := Lib.hid hjt
      clear hjt hj cx cy hc h4 h3
      have HB := Lib.hid hb
      clear hb
      generalize l[p].1 = u at *
      generalize l[p].2 = z at *
      have bo1 := bo.ext (ext_alloc wr (.cells #[.int .i64 u, .int .i64 z] 25))
      have bo1c0 := bo1.cell (i := 0) rfl
      have bo1c1 := bo1.cell (i := 1) rfl
      go_wp2_with fail
      refine (each_any _ _ Try.func29 (by kernel_rfl) _ x y u z vecMax_any _).mono ?_
      rintro e w' ⟨rfl, he⟩
      replace bo := bo1.ext he
      have hx2 : Ext w w' := Ext.trans hx (Ext.trans (ext_alloc _ _) he)
      clear bo1 bo1c0 bo1c1 he cp0 cp1
      have c0 := bo.cell (i := 0) rfl
      have c1 := bo.cell (i := 1) rfl
      have z0 := bo.thaw 0
      have z1 := bo.thaw 1
      unfold vecV
      go_wp2_with fail
      go_roundw
      case rel => exact ⟨p + 1, max x u, max y z, hlt, by go_num, HT.out, (bo.set 0 _).set 1 _, (hx2.setCell (Nat.le_refl _) _).setCell (Nat.le_refl _) _⟩
      case measure => simp [intOf]; omega
    · have hpe : p = l.length := by omega
      subst hpe
      rw [List.take_length] at hj
      have HV := Lib.hid hj
      have c0 := bo.cell (i := 0) rfl
      have c1 := bo.cell (i := 1) rfl
      have z0 := bo.thaw 0
      have z1 := bo.thaw 1
      clear hj HJ h3 h4 hv
      go_wp2_with fail
      have bo2 := (bo.set 0 (.int .i64 x)).set 1 (.int .i64 y)
      have d0 := bo2.cell (i := 0) rfl
      have d1 := bo2.cell (i := 1) rfl
      exact bodyPost_ret (v := .agg #[.int .i64 x, .int .i64 y]) (by simp [results, Try.results10, d0, d1, go_sem]) rfl ⟨by rw [HV.out]; rfl, (hx.setCell (Nat.le_refl _) _).setCell (Nat.le_refl _) _⟩

set_option maxHeartbeats 800000 in
theorem refJoin_any (v : Value) (l : List (Int × Int)) (w : World) (hv : Vs w v l) : Calls Try.prog 11 #[v] w fun e w' => e = .returned (vecV (vjoin l).1 (vjoin l).2) ∧ Ext w w' := by
  obtain ⟨A, c, rfl, h1, h2, h3, h4⟩ := id hv
  unfold maxLen at h2
  go_enter Try.func11, Try.ntmps11
  go_wp2_with fail
  have hx0 : Ext w ((w.alloc (.cells #[.int .i64 0, .int .i64 0] 25)).alloc (.cells #[.int .i64 0, .int .i64 0] 25)) := (ext_alloc _ _).trans (ext_alloc _ _)
  have br0 := (Blk.new w #[.int .i64 0, .int .i64 0] 25).ext (ext_alloc _ (.cells #[.int .i64 0, .int .i64 0] 25))
  have bo0 := Blk.new (w.alloc (.cells #[.int .i64 0, .int .i64 0] 25)) #[.int .i64 0, .int .i64 0] 25
  simp only [World.size_alloc] at bo0
  go_loopw [4] (fun at_ wr => ∃ (p : Nat) (x y : Int), p ≤ l.length ∧ at_ = .int .i64 p ∧ vjoin (l.take p) = (x, y) ∧ Blk wr w.heap.size [.int .i64 0, .int .i64 0] ∧ Blk wr (w.heap.size + 1) [.int .i64 x, .int .i64 y] ∧ Ext w wr) (fun a _ => l.length - (intOf a).toNat)
  case atStart => exact ⟨0, 0, 0, Nat.zero_le _, rfl, rfl, br0, bo0, hx0⟩
  case round =>
    obtain ⟨p, x, y, hpl, rfl, hj, br, bo, hx⟩ := hrel
    have HJ := Lib.hid hj
    have HX := Lib.hid hx
    clear bo0 hx0 br0
    by_cases hlt : p < l.length
    · obtain ⟨b, off, rfl, hb, hc⟩ := h4 (by omega)
      obtain ⟨cx, cy⟩ := hc p l[p] (List.getElem?_eq_getElem hlt)
      have cp0 := hx.at hb cx
      have cp1 := hx.at hb cy
      have hjt := vjoin_take hlt
      rw [hj] at hjt
      have HT := Lib.hid hjt
      clear hjt hj cx hc h4 h3
      have HB := Lib.hid (Nat.lt_of_lt_of_le hb hx.size)
      have HB0 := Lib.hid hb
      clear hb
      generalize l[p].1 = u at *
      generalize l[p].2 = z at *
      have CY := Lib.hid cy
      clear cy cp1
      go_wp2_with fail
      refine wp_region_last_lit (by kernel_rfl) rfl (by kernel_rfl) (by kernel_rfl) ?_
      refine tele_val rfl (.pointer (some ⟨w.heap.size + 1, 0, none⟩)) (fun _ _ _ => rfl) ?_ ?_
      · rintro ρ w' he ⟨h3, -⟩
        have e3 : ρ 3 = (.pointer (some ⟨w.heap.size + 1, 0, none⟩)) := h3
        simp [execOp, evR, e3, go_sem]
      refine tele_val rfl (.int .i64 x) (fun _ _ _ => rfl) ?_ ?_
      · rintro ρ w' he ⟨h11, -⟩
        have e11 : ρ 11 = (.pointer (some ⟨w.heap.size + 1, 0, none⟩)) := h11
        have c := (bo.ext he).cell (i := 0) rfl
        simp [execOp, evR, e11, c, go_sem]
      refine tele_move rfl (.inl rfl) rfl (isV (.slice (some ⟨b, off, none⟩) l.length c)) (fun ρ w' h => h) ?_
      refine tele_move rfl (.inl rfl) rfl (isV (.int .i64 (p : Int))) (fun ρ w' h => h) ?_
      refine tele_val rfl (.pointer (some ⟨b, off + p * 2, none⟩)) (fun _ _ _ => rfl) ?_ ?_
      · rintro ρ w' he ⟨h13, h14, -⟩
        have e13 : ρ 13 = (.slice (some ⟨b, off, none⟩) l.length c) := h13
        have e14 : ρ 14 = (.int .i64 (p : Int)) := h14
        simp [execOp, evR, e13, e14, hlt, go_sem]
      refine tele_val rfl (.pointer (some ⟨b, off + p * 2, none⟩)) (fun _ _ _ => rfl) ?_ ?_
      · rintro ρ w' he ⟨h15, -⟩
        have e15 : ρ 15 = (.pointer (some ⟨b, off + p * 2, none⟩)) := h15
        simp [execOp, evR, e15, go_sem]
      refine tele_val rfl (.int .i64 u) (fun _ _ _ => rfl) ?_ ?_
      · rintro ρ w' he ⟨h16, -⟩
        have e16 : ρ 16 = (.pointer (some ⟨b, off + p * 2, none⟩)) := h16
        have c := he.at HB.out cp0
        simp [execOp, evR, e16, c, go_sem]
      refine tele_val rfl (.int .i64 (max x u)) (fun _ _ _ => rfl) ?_ ?_
      · rintro ρ w' he ⟨h12, h17, -⟩
        have e12 : ρ 12 = (.int .i64 x) := h12
        have e17 : ρ 17 = (.int .i64 u) := h17
        rcases (show x < u ∨ u ≤ x by omega) with hm | hm
        · simp [execOp, evR, e12, e17, go_sem, hm]; omega
        · simp [execOp, evR, e12, e17, go_sem, hm]; omega
      refine tele_val rfl (.pointer (some ⟨w.heap.size + 1, 0, none⟩)) (fun _ _ _ => rfl) ?_ ?_
      · rintro ρ w' he ⟨h3, -⟩
        have e3 : ρ 3 = (.pointer (some ⟨w.heap.size + 1, 0, none⟩)) := h3
        simp [execOp, evR, e3, go_sem]
      refine tele_nil ?_
      rintro ρ w' hext ⟨f19, f18, f17, f16, f15, f14, f13, f12, f11, -⟩
      replace f11 : ρ 11 = (.pointer (some ⟨w.heap.size + 1, 0, none⟩)) := f11
      replace f12 : ρ 12 = (.int .i64 x) := f12
      replace f13 : ρ 13 = (.slice (some ⟨b, off, none⟩) l.length c) := f13
      replace f14 : ρ 14 = (.int .i64 (p : Int)) := f14
      replace f15 : ρ 15 = (.pointer (some ⟨b, off + p * 2, none⟩)) := f15
      replace f16 : ρ 16 = (.pointer (some ⟨b, off + p * 2, none⟩)) := f16
      replace f17 : ρ 17 = (.int .i64 u) := f17
      replace f18 : ρ 18 = (.int .i64 (max x u)) := f18
      replace f19 : ρ 19 = (.pointer (some ⟨w.heap.size + 1, 0, none⟩)) := f19
      simp only [puts, Act.put, List.setIfInBounds_toArray, List.set_cons_zero, List.set_cons_succ]
      rw [f19, f18]
      clear f11 f12 f13 f14 f15 f16 f17 f18 f19
      replace bo := bo.ext hext
      replace br := br.ext hext
      replace hx := Ext.trans hx hext
      have s0 := bo.cell (i := 0) rfl
      have s1 := bo.thaw 0
      go_wp2_with fail
      clear s0 s1 cp0
      have NE : w.heap.size ≠ w.heap.size + 1 := by omega
      replace bo := bo.set 0 (.int .i64 (max x u))
      replace br := br.apart (a := ⟨w.heap.size + 1, 0, none⟩) (.int .i64 (max x u)) NE
      replace hx := hx.setCell (p := ⟨w.heap.size + 1, 0, none⟩) (Nat.le_succ _) (.int .i64 (max x u))
      clear NE
      simp only [List.set_cons_zero] at bo
      generalize w'.setCell ⟨w.heap.size + 1, 0, none⟩ (.int .i64 (max x u)) = W1 at *
      have hx : Ext w W1 := hx
      have HB2 := Lib.hid (Nat.lt_of_lt_of_le HB0.out hx.size)
      have cp1 := hx.at HB0.out CY.out
      clear w' hext
      refine wp_region_last_lit (by kernel_rfl) rfl (by kernel_rfl) (by kernel_rfl) ?_
      refine tele_val rfl (.pointer (some ⟨w.heap.size + 1, 1, none⟩)) (fun _ _ _ => rfl) ?_ ?_
      · rintro ρ w' he ⟨h3, -⟩
        have e3 : ρ 3 = (.pointer (some ⟨w.heap.size + 1, 0, none⟩)) := h3
        simp [execOp, evR, e3, go_sem]
      refine tele_val rfl (.int .i64 y) (fun _ _ _ => rfl) ?_ ?_
      · rintro ρ w' he ⟨h20, -⟩
        have e20 : ρ 20 = (.pointer (some ⟨w.heap.size + 1, 1, none⟩)) := h20
        have c := (bo.ext he).cell (i := 1) rfl
        simp [execOp, evR, e20, c, go_sem]
      refine tele_move rfl (.inl rfl) rfl (isV (.slice (some ⟨b, off, none⟩) l.length c)) (fun ρ w' h => h) ?_
      refine tele_move rfl (.inl rfl) rfl (isV (.int .i64 (p : Int))) (fun ρ w' h => h) ?_
      refine tele_val rfl (.pointer (some ⟨b, off + p * 2, none⟩)) (fun _ _ _ => rfl) ?_ ?_
      · rintro ρ w' he ⟨h22, h23, -⟩
        have e22 : ρ 22 = (.slice (some ⟨b, off, none⟩) l.length c) := h22
        have e23 : ρ 23 = (.int .i64 (p : Int)) := h23
        simp [execOp, evR, e22, e23, hlt, go_sem]
      refine tele_val rfl (.pointer (some ⟨b, off + p * 2 + 1, none⟩)) (fun _ _ _ => rfl) ?_ ?_
      · rintro ρ w' he ⟨h24, -⟩
        have e24 : ρ 24 = (.pointer (some ⟨b, off + p * 2, none⟩)) := h24
        simp [execOp, evR, e24, go_sem]
      refine tele_val rfl (.int .i64 z) (fun _ _ _ => rfl) ?_ ?_
      · rintro ρ w' he ⟨h25, -⟩
        have e25 : ρ 25 = (.pointer (some ⟨b, off + p * 2 + 1, none⟩)) := h25
        have c := he.at HB2.out cp1
        simp [execOp, evR, e25, c, go_sem]
      refine tele_val rfl (.int .i64 (max y z)) (fun _ _ _ => rfl) ?_ ?_
      · rintro ρ w' he ⟨h21, h26, -⟩
        have e21 : ρ 21 = (.int .i64 y) := h21
        have e26 : ρ 26 = (.int .i64 z) := h26
        rcases (show y < z ∨ z ≤ y by omega) with hm | hm
        · simp [execOp, evR, e21, e26, go_sem, hm]; omega
        · simp [execOp, evR, e21, e26, go_sem, hm]; omega
      refine tele_val rfl (.pointer (some ⟨w.heap.size + 1, 1, none⟩)) (fun _ _ _ => rfl) ?_ ?_
      · rintro ρ w' he ⟨h3, -⟩
        have e3 : ρ 3 = (.pointer (some ⟨w.heap.size + 1, 0, none⟩)) := h3
        simp [execOp, evR, e3, go_sem]
      refine tele_nil ?_
      rintro ρ w' hext ⟨f28, f27, f26, f25, f24, f23, f22, f21, f20, -⟩
      replace f20 : ρ 20 = (.pointer (some ⟨w.heap.size + 1, 1, none⟩)) := f20
      replace f21 : ρ 21 = (.int .i64 y) := f21
      replace f22 : ρ 22 = (.slice (some ⟨b, off, none⟩) l.length c) := f22
      replace f23 : ρ 23 = (.int .i64 (p : Int)) := f23
      replace f24 : ρ 24 = (.pointer (some ⟨b, off + p * 2, none⟩)) := f24
      replace f25 : ρ 25 = (.pointer (some ⟨b, off + p * 2 + 1, none⟩)) := f25
      replace f26 : ρ 26 = (.int .i64 z) := f26
      replace f27 : ρ 27 = (.int .i64 (max y z)) := f27
      replace f28 : ρ 28 = (.pointer (some ⟨w.heap.size + 1, 1, none⟩)) := f28
      simp only [puts, Act.put, List.setIfInBounds_toArray, List.set_cons_zero, List.set_cons_succ]
      rw [f28, f27]
      clear f20 f21 f22 f23 f24 f25 f26 f27 f28
      replace bo := bo.ext hext
      replace br := br.ext hext
      replace hx := Ext.trans hx hext
      have s0 := bo.cell (i := 1) rfl
      have s1 := bo.thaw 1
      go_wp2_with fail
      have NE : w.heap.size ≠ w.heap.size + 1 := by omega
      replace br := br.apart (a := ⟨w.heap.size + 1, 1, none⟩) (.int .i64 (max y z)) NE
      clear NE
      go_roundw
      case rel => exact ⟨p + 1, max x u, max y z, hlt, by go_num, HT.out, br, bo.set 1 _, hx.setCell (Nat.le_succ _) _⟩
      case measure => simp [intOf]; omega
    · have hpe : p = l.length := by omega
      subst hpe
      rw [List.take_length] at hj
      have HV := Lib.hid hj
      have c0 := bo.cell (i := 0) rfl
      have c1 := bo.cell (i := 1) rfl
      have c2 := br.cell (i := 0) rfl
      have c3 := br.cell (i := 1) rfl
      have z0 := br.thaw 0
      have z1 := br.thaw 1
      clear hj HJ h3 h4 hv
      go_wp2_with fail
      have bo2 := (br.set 0 (.int .i64 x)).set 1 (.int .i64 y)
      have d0 := bo2.cell (i := 0) rfl
      have d1 := bo2.cell (i := 1) rfl
      exact bodyPost_ret (v := .agg #[.int .i64 x, .int .i64 y]) (by simp [results, Try.results11, d0, d1, go_sem]) rfl ⟨by rw [HV.out]; rfl, (hx.setCell (Nat.le_refl _) _).setCell (Nat.le_refl _) _⟩
end Go.Proofs.Ytfhahkklkkdkoaa
