/-
  The walks of layer 6, the fifth part: Put and Get.
-/
import Derived.Test.YtocdifjdeifclaaVecEach
import Derived.Test.YtocdifjdeifclaaNumText
import Derived.Test.YtocdifjdeifclaaNumWalks
import Derived.Test.YtocdifjdeifclaaNumBack
namespace Go.Proofs.Ytocdifjdeifclaa
open Go.RowKit Mono Num
set_option linter.unusedSimpArgs false
set_option linter.unusedVariables false

/-- The bytes of counts. -/
def vput (a b : Int) : List UInt8 := if vgood a b = true then nput a ++ nput b else []
def vget2 (x k : Nat) (g : Nat × Nat × Nat) : (Int × Int) × Nat × Nat :=
  if g.2.2 = 0 then (if vgood x g.1 = true then (((x : Int), (g.1 : Int)), k + g.2.1, 0) else ((0, 0), 0, 11)) else ((0, 0), 0, g.2.2)
def vget (l : List UInt8) : (Int × Int) × Nat × Nat :=
  if (nget l).2.2 = 0 then vget2 (nget l).1 (nget l).2.1 (nget (l.drop (nget l).2.1)) else ((0, 0), 0, (nget l).2.2)
theorem vput_len (a b : Int) : (vput a b).length ≤ 16 := by
  unfold vput
  split
  · have h1 := nsize_le a
    have h2 := nsize_le b
    rw [List.length_append, nput_length, nput_length]; omega
  · simp
theorem vget_vput (a b : Int) (l : List UInt8) (h : vgood a b = true) : vget (vput a b ++ l) = ((a, b), (vput a b).length, 0) := by
  have hb := vgood_bounds h
  have hp : vput a b = nput a ++ nput b := by unfold vput; rw [if_pos h]
  obtain ⟨x, rfl⟩ : ∃ x : Nat, a = x := ⟨a.toNat, by omega⟩
  obtain ⟨y, rfl⟩ : ∃ y : Nat, b = y := ⟨b.toNat, by omega⟩
  have e1 : nget (vput x y ++ l) = (x, nsize x, 0) := by rw [hp, List.append_assoc]; exact nget_nput x _ (by omega)
  have e2 : (vput (x : Int) y ++ l).drop (nsize x) = nput y ++ l := by
    rw [hp, List.append_assoc, List.drop_append_of_le_length (by rw [nput_length]; exact Nat.le_refl _), ← nput_length, List.drop_length]
    rfl
  have e3 : nget (nput (y : Int) ++ l) = (y, nsize y, 0) := nget_nput y _ (by omega)
  unfold vget vget2
  simp only [e1, e2, e3, if_true, h]
  rw [hp, List.length_append, nput_length, nput_length]
def isOw (B : Nat) (l : List UInt8) : MRel := ⟨fun v w => OwB w B v l, fun _ _ _ h he => h.ext he⟩
theorem OwB.mono {w : World} {base base' : Nat} {v : Value} {l : List UInt8} (h : OwB w base v l) (hb : base' ≤ base) : OwB w base' v l := Ow.mono h hb

set_option maxHeartbeats 800000 in
theorem vecPut_any (v : Value) (l : List UInt8) (a b : Int) (w : World) (hv : Bs w v l) (hl : l.length ≤ 140737488354900) :
    Calls Try.prog 55 #[v, vecV a b] w fun e w' => ∃ r, e = .returned r ∧ OwB w' w.heap.size r (l ++ vput a b) ∧ Ext w w' := by
  obtain ⟨A, c, rfl, h1, h2, _, _⟩ := hv.open_
  unfold maxLen at h2
  unfold vecV
  go_enter Try.func55, Try.ntmps55
  go_wp2_with fail
  have ba := Blk.new (w) #[.int .i64 a, .int .i64 b] 26
  have hx : Ext w (((w).alloc (.cells #[.int .i64 a, .int .i64 b] 26))) := ext_alloc _ _
  obtain ⟨n, hnn⟩ : ∃ n, n = w.heap.size := ⟨_, rfl⟩
  rw [← hnn] at ba ⊢
  have HN := Lib.hid hnn
  clear hnn
  generalize ((w).alloc (.cells #[.int .i64 a, .int .i64 b] 26)) = W at *
  have bac0 := ba.cell (i := 0) rfl
  have baz0 := ba.thaw 0
  have bac1 := ba.cell (i := 1) rfl
  have baz1 := ba.thaw 1
  refine (vecGood_any a b _).mono ?_
  rintro e w1 ⟨rfl, he⟩
  replace ba := ba.ext he
  replace hx := Ext.trans hx he
  have HL := Lib.hid hx.size
  clear he bac0 bac1 baz0 baz1
  cases hg : vgood a b
  · have HP := Lib.hid (show vput a b = [] by unfold vput; rw [hg]; rfl)
    clear hg
    go_wp2_with (at_builtin; refine wpList_append_bs _ rfl (.tmp 8) (.tmp 9) rfl (OwB.empty_ w1 HL.out) ((hv.ext hx).ext (ext_alloc _ _)) rfl rfl (by simp; omega) (by have := HL.out; simp; omega) ?_; intro v1 w2 hown1 hg1 hat1; have hb1 : Below w.heap.size w w2 := Below.growB (Below.alloc hx HL.out _) (OwB.empty_ w1 HL.out) hg1 (Nat.le_refl _) (by have := HL.out; simp; omega))
    rw [List.nil_append] at hown1
    go_ret
    exact ⟨_, rfl, by rw [HP.out, List.append_nil]; exact hown1, hb1⟩
  · have hb := vgood_bounds hg
    have HP := Lib.hid (show vput a b = nput a ++ nput b by unfold vput; rw [hg]; rfl)
    clear hg
    go_wp2_with fail
    refine wp_region_mono (by kernel_rfl) (by kernel_rfl) ?_
    refine tele_move rfl (.inl rfl) rfl (isV (.slice A l.length c)) (fun ρ w' h => h) ?_
    refine tele_val rfl (.pointer (some ⟨n, 0, none⟩)) (fun _ _ _ => rfl) ?_ ?_
    · rintro ρ w' he ⟨h3, -⟩
      have e3 : ρ 3 = (.pointer (some ⟨n, 0, none⟩)) := h3
      simp [execOp, evR, e3, go_sem]
    refine tele_val rfl (.int .i64 a) (fun _ _ _ => rfl) ?_ ?_
    · rintro ρ w' he ⟨h12, -⟩
      have e12 : ρ 12 = (.pointer (some ⟨n, 0, none⟩)) := h12
      have c := (ba.ext he).cell (i := 0) rfl
      simp [execOp, evR, e12, c, go_sem]
    refine tele_call rfl rfl Try.func54 (by kernel_rfl) (isBs (l ++ nput a)) (fun _ _ _ => rfl) ?_ ?_
    · rintro ρ w' he ⟨h11, h13, -⟩
      have e11 : ρ 11 = (.slice A l.length c) := h11
      have e13 : ρ 13 = (.int .i64 a) := h13
      simp only [evR, List.map_toArray, List.map_cons, List.map_nil, e11, e13]
      refine (numPut_any _ l a _ (hv.ext (Ext.trans hx he)) (by omega) (by omega)).mono ?_
      rintro e w'' ⟨r, rfl, h, he⟩
      exact ⟨_, rfl, he, h.bs⟩
    refine tele_val rfl (.pointer (some ⟨n, 1, none⟩)) (fun _ _ _ => rfl) ?_ ?_
    · rintro ρ w' he ⟨h3, -⟩
      have e3 : ρ 3 = (.pointer (some ⟨n, 0, none⟩)) := h3
      simp [execOp, evR, e3, go_sem]
    refine tele_val rfl (.int .i64 b) (fun _ _ _ => rfl) ?_ ?_
    · rintro ρ w' he ⟨h15, -⟩
      have e15 : ρ 15 = (.pointer (some ⟨n, 1, none⟩)) := h15
      have c := (ba.ext he).cell (i := 1) rfl
      simp [execOp, evR, e15, c, go_sem]
    refine tele_call rfl rfl Try.func54 (by kernel_rfl) (isOw w.heap.size (l ++ vput a b)) (fun _ _ _ => rfl) ?_ ?_
    · rintro ρ w' he ⟨h14, h16, -⟩
      have e14 : Bs w' (ρ 14) (l ++ nput a) := h14
      have e16 : ρ 16 = (.int .i64 b) := h16
      simp only [evR, List.map_toArray, List.map_cons, List.map_nil, e16]
      refine (numPut_any _ _ b _ e14 (by have := nsize_le a; rw [List.length_append, nput_length]; omega) (by omega)).mono ?_
      rintro e w'' ⟨r, rfl, h, he'⟩
      have hq := HP.out
      rw [List.append_assoc, ← hq] at h
      exact ⟨_, rfl, he', OwB.mono h (Nat.le_trans HL.out he.size)⟩
    refine tele_move rfl (.inr rfl) rfl (isOw w.heap.size (l ++ vput a b)) (fun ρ w' h => h) ?_
    refine tele_nil ?_
    rintro ρ w' hext ⟨f4, f17, f16, f15, f14, f13, f12, f11, -⟩
    replace f11 : ρ 11 = (.slice A l.length c) := f11
    replace f12 : ρ 12 = (.pointer (some ⟨n, 0, none⟩)) := f12
    replace f13 : ρ 13 = (.int .i64 a) := f13
    replace f14 : Bs w' (ρ 14) (l ++ nput a) := f14
    replace f15 : ρ 15 = (.pointer (some ⟨n, 1, none⟩)) := f15
    replace f16 : ρ 16 = (.int .i64 b) := f16
    replace f17 : (isOw w.heap.size (l ++ vput a b)).rel (ρ 17) w' := f17
    replace f4 : (isOw w.heap.size (l ++ vput a b)).rel (ρ 4) w' := f4
    simp only [puts, Act.put, List.setIfInBounds_toArray, List.set_cons_zero, List.set_cons_succ]
    go_wp2_with fail
    go_ret
    exact ⟨_, rfl, f4, Ext.trans hx hext⟩

set_option maxHeartbeats 800000 in
theorem ref6Put_any (v : Value) (l : List UInt8) (a b : Int) (w : World) (hv : Bs w v l) (hl : l.length ≤ 140737488354900) :
    Calls Try.prog 59 #[v, vecV a b] w fun e w' => ∃ r, e = .returned r ∧ OwB w' w.heap.size r (l ++ vput a b) ∧ Ext w w' := by
  obtain ⟨A, c, rfl, h1, h2, _, _⟩ := hv.open_
  unfold maxLen at h2
  unfold vecV
  go_enter Try.func59, Try.ntmps59
  go_wp2_with fail
  have ba := Blk.new (w) #[.int .i64 a, .int .i64 b] 26
  have hx : Ext w (((w).alloc (.cells #[.int .i64 a, .int .i64 b] 26))) := ext_alloc _ _
  obtain ⟨n, hnn⟩ : ∃ n, n = w.heap.size := ⟨_, rfl⟩
  rw [← hnn] at ba ⊢
  have HN := Lib.hid hnn
  clear hnn
  generalize ((w).alloc (.cells #[.int .i64 a, .int .i64 b] 26)) = W at *
  have bac0 := ba.cell (i := 0) rfl
  have baz0 := ba.thaw 0
  have bac1 := ba.cell (i := 1) rfl
  have baz1 := ba.thaw 1
  refine (refVGood_any a b _).mono ?_
  rintro e w1 ⟨rfl, he⟩
  replace ba := ba.ext he
  replace hx := Ext.trans hx he
  have HL := Lib.hid hx.size
  clear he bac0 bac1 baz0 baz1
  cases hg : vgood a b
  · have HP := Lib.hid (show vput a b = [] by unfold vput; rw [hg]; rfl)
    clear hg
    go_wp2_with (at_builtin; refine wpList_append_bs _ rfl (.tmp 8) (.tmp 9) rfl (OwB.empty_ w1 HL.out) ((hv.ext hx).ext (ext_alloc _ _)) rfl rfl (by simp; omega) (by have := HL.out; simp; omega) ?_; intro v1 w2 hown1 hg1 hat1; have hb1 : Below w.heap.size w w2 := Below.growB (Below.alloc hx HL.out _) (OwB.empty_ w1 HL.out) hg1 (Nat.le_refl _) (by have := HL.out; simp; omega))
    rw [List.nil_append] at hown1
    go_ret
    exact ⟨_, rfl, by rw [HP.out, List.append_nil]; exact hown1, hb1⟩
  · have hb := vgood_bounds hg
    have HP := Lib.hid (show vput a b = nput a ++ nput b by unfold vput; rw [hg]; rfl)
    clear hg
    go_wp2_with fail
    refine wp_region_mono (by kernel_rfl) (by kernel_rfl) ?_
    refine tele_move rfl (.inl rfl) rfl (isV (.slice A l.length c)) (fun ρ w' h => h) ?_
    refine tele_val rfl (.pointer (some ⟨n, 0, none⟩)) (fun _ _ _ => rfl) ?_ ?_
    · rintro ρ w' he ⟨h3, -⟩
      have e3 : ρ 3 = (.pointer (some ⟨n, 0, none⟩)) := h3
      simp [execOp, evR, e3, go_sem]
    refine tele_val rfl (.int .i64 a) (fun _ _ _ => rfl) ?_ ?_
    · rintro ρ w' he ⟨h12, -⟩
      have e12 : ρ 12 = (.pointer (some ⟨n, 0, none⟩)) := h12
      have c := (ba.ext he).cell (i := 0) rfl
      simp [execOp, evR, e12, c, go_sem]
    refine tele_call rfl rfl Try.func58 (by kernel_rfl) (isBs (l ++ nput a)) (fun _ _ _ => rfl) ?_ ?_
    · rintro ρ w' he ⟨h11, h13, -⟩
      have e11 : ρ 11 = (.slice A l.length c) := h11
      have e13 : ρ 13 = (.int .i64 a) := h13
      simp only [evR, List.map_toArray, List.map_cons, List.map_nil, e11, e13]
      refine (refPut_any _ l a _ (hv.ext (Ext.trans hx he)) (by omega) (by omega)).mono ?_
      rintro e w'' ⟨r, rfl, h, he⟩
      exact ⟨_, rfl, he, h.bs⟩
    refine tele_val rfl (.pointer (some ⟨n, 1, none⟩)) (fun _ _ _ => rfl) ?_ ?_
    · rintro ρ w' he ⟨h3, -⟩
      have e3 : ρ 3 = (.pointer (some ⟨n, 0, none⟩)) := h3
      simp [execOp, evR, e3, go_sem]
    refine tele_val rfl (.int .i64 b) (fun _ _ _ => rfl) ?_ ?_
    · rintro ρ w' he ⟨h15, -⟩
      have e15 : ρ 15 = (.pointer (some ⟨n, 1, none⟩)) := h15
      have c := (ba.ext he).cell (i := 1) rfl
      simp [execOp, evR, e15, c, go_sem]
    refine tele_call rfl rfl Try.func58 (by kernel_rfl) (isOw w.heap.size (l ++ vput a b)) (fun _ _ _ => rfl) ?_ ?_
    · rintro ρ w' he ⟨h14, h16, -⟩
      have e14 : Bs w' (ρ 14) (l ++ nput a) := h14
      have e16 : ρ 16 = (.int .i64 b) := h16
      simp only [evR, List.map_toArray, List.map_cons, List.map_nil, e16]
      refine (refPut_any _ _ b _ e14 (by have := nsize_le a; rw [List.length_append, nput_length]; omega) (by omega)).mono ?_
      rintro e w'' ⟨r, rfl, h, he'⟩
      have hq := HP.out
      rw [List.append_assoc, ← hq] at h
      exact ⟨_, rfl, he', OwB.mono h (Nat.le_trans HL.out he.size)⟩
    refine tele_move rfl (.inr rfl) rfl (isOw w.heap.size (l ++ vput a b)) (fun ρ w' h => h) ?_
    refine tele_nil ?_
    rintro ρ w' hext ⟨f4, f17, f16, f15, f14, f13, f12, f11, -⟩
    replace f11 : ρ 11 = (.slice A l.length c) := f11
    replace f12 : ρ 12 = (.pointer (some ⟨n, 0, none⟩)) := f12
    replace f13 : ρ 13 = (.int .i64 a) := f13
    replace f14 : Bs w' (ρ 14) (l ++ nput a) := f14
    replace f15 : ρ 15 = (.pointer (some ⟨n, 1, none⟩)) := f15
    replace f16 : ρ 16 = (.int .i64 b) := f16
    replace f17 : (isOw w.heap.size (l ++ vput a b)).rel (ρ 17) w' := f17
    replace f4 : (isOw w.heap.size (l ++ vput a b)).rel (ρ 4) w' := f4
    simp only [puts, Act.put, List.setIfInBounds_toArray, List.set_cons_zero, List.set_cons_succ]
    go_wp2_with fail
    go_ret
    exact ⟨_, rfl, f4, Ext.trans hx hext⟩
end Go.Proofs.Ytocdifjdeifclaa
