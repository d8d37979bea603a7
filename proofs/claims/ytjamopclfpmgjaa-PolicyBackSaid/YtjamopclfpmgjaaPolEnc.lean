/-
  The walks of Encode, and of the document's own.
-/
import Derived.Test.YtjamopclfpmgjaaPolFind
namespace Go.Proofs.Ytjamopclfpmgjaa
open Go Go.RowKit Mono Num Go.Maps Go.WideMaps
set_option linter.unusedVariables false
set_option linter.unusedSimpArgs false

def isOw (B : Nat) (l : List UInt8) : MRel := ⟨fun v w => OwB w B v l, fun _ _ _ h he => h.ext he⟩
theorem OwB.mono {w : World} {base base' : Nat} {v : Value} {l : List UInt8} (h : OwB w base v l) (hb : base' ≤ base) : OwB w base' v l := Ow.mono h hb
def gbytes (g : Grp) : List UInt8 := nputText g.1 ++ nput g.2
def pcat (l : List Grp) : List UInt8 := (l.map gbytes).flatten
/-- A schema's bytes. -/
def pbytes (l : List Grp) : List UInt8 := nput (l.length : Int) ++ pcat l
def penc (l : List Grp) : List UInt8 × Nat := if pgood l ≠ 0 then ([], pgood l) else (pbytes l, 0)
theorem pgoodF_ok : ∀ (l : List Grp) (met : List (List UInt8)), pgoodF met l = 0 → ∀ g ∈ l, grpOk g = true
  | [], _, _, g, hg => by cases hg
  | x :: r, met, h, g, hg => by
    unfold pgoodF at h
    split at h
    · cases h
    · rename_i hx
      split at h
      · cases h
      · rcases List.mem_cons.1 hg with rfl | hg
        · simpa using hx
        · exact pgoodF_ok r _ h g hg
theorem pgood_ok {l : List Grp} (h : pgood l = 0) : 0 < l.length ∧ l.length ≤ 4 ∧ ∀ g ∈ l, g.1.length ≤ 12 ∧ (g.2 = 1 ∨ g.2 = 2) := by
  have hk := h
  unfold pgood at h
  split at h
  · cases h
  · split at h
    · cases h
    · refine ⟨by omega, by omega, fun g hg => ?_⟩
      have := pgoodF_ok l _ h g hg
      unfold grpOk nameOk polOk at this
      simp at this
      exact ⟨this.1.2.2, this.2⟩
theorem pcat_len (l : List Grp) (h : ∀ g ∈ l, g.1.length ≤ 12 ∧ (g.2 = 1 ∨ g.2 = 2)) : (pcat l).length ≤ 28 * l.length := by
  induction l with
  | nil => simp [pcat]
  | cons g r ih =>
    have h1 := h g (by simp)
    have h2 := ih (fun x hx => h x (by simp [hx]))
    have h3 := nsize_le (g.1.length : Int)
    have h4 := nsize_le g.2
    unfold pcat at h2 ⊢
    simp only [List.map_cons, List.flatten_cons, List.length_append, List.length_cons, gbytes, nputText, nput_length]
    omega
theorem pcat_succ {l : List Grp} {i : Nat} {n : List UInt8} {p : Int} (h : l[i]? = some (n, p)) : pcat (l.take (i + 1)) = pcat (l.take i) ++ nputText n ++ nput p := by
  rw [List.take_add_one, h]
  simp [pcat, gbytes]
theorem pcat_take_len {l : List Grp} (h : ∀ g ∈ l, g.1.length ≤ 12 ∧ (g.2 = 1 ∨ g.2 = 2)) (hl : l.length ≤ 4) (i : Nat) : (pcat (l.take i)).length ≤ 112 := by
  have := pcat_len (l.take i) (fun g hg => h g (List.mem_of_mem_take hg))
  have h2 : (l.take i).length ≤ l.length := by rw [List.length_take]; omega
  omega

set_option maxHeartbeats 2000000 in
theorem polEncode_any (v : Value) (l : List Grp) (w : World) (hv : Gs w v l) :
    Calls Try.prog 20 #[v] w fun e w' => ∃ r, e = .returned (.tuple #[r, .int .i64 ((penc l).2 : Int)]) ∧ OwB w' w.heap.size r (penc l).1 ∧ Ext w w' := by
  have hV := hv
  obtain ⟨A, c, rfl, h1, h2, h3, h4⟩ := hv.at_
  have HG := Lib.hid (fun w hw => polGood_any (.slice A l.length c) l w hw)
  obtain ⟨e, hpe⟩ : ∃ e, pgood l = e := ⟨_, rfl⟩
  rw [hpe] at HG
  by_cases he0 : e = 0
  · subst he0
    have HF := Lib.hid (show penc l = (pbytes l, 0) by unfold penc; rw [if_neg (by simp [hpe])])
    obtain ⟨hl0, hl4, hall⟩ := pgood_ok hpe
    obtain ⟨b, off, rfl, hb, hcell⟩ := h4 hl0
    clear hpe h4
    go_enter Try.func20, Try.ntmps20
    go_wp2_with fail
    refine (HG.out _ hV).mono ?_
    rintro e w1 ⟨rfl, x1⟩
    clear HG
    go_wp2_with fail
    refine (numPut_any _ [] l.length _ (Bs.nil_ _) (by simp) (by omega)).mono ?_
    rintro e w2 ⟨r, rfl, hr, x2⟩
    rw [List.nil_append] at hr
    have hr0 := OwB.mono hr x1.size
    go_wp2_with fail
    go_loopw [5, 18] (fun v i wr => ∃ k : Nat, k ≤ l.length ∧ i = .int .i64 k ∧ OwB wr w.heap.size v (nput (l.length : Int) ++ pcat (l.take k)) ∧ Ext w wr) (fun _ i _ => l.length - (intOf i).toNat)
    case atStart => exact ⟨0, Nat.zero_le _, rfl, by simpa [pcat] using hr0, Ext.trans x1 x2⟩
    case round =>
     obtain ⟨i, hi, rfl, how, hx⟩ := hrel
     by_cases hlt : i < l.length
     ·
      obtain ⟨n, p, hget, hc1, hc2, hn, hp⟩ := hcell i hlt
      have hnl := (hall _ (List.mem_of_getElem? hget)).1
      dsimp only at hnl
      have hpl := pcat_take_len hall hl4 i
      have hns := nsize_le (l.length : Int)
      have hol : (nput (l.length : Int) ++ pcat (l.take i)).length ≤ 200 := by rw [List.length_append, nput_length]; omega
      have hnt : (nputText n).length ≤ 30 := by have := nsize_le (n.length : Int); unfold nputText; rw [List.length_append, nput_length]; omega
      have HT := Lib.hid (show nput (l.length : Int) ++ pcat (l.take (i + 1)) = nput (l.length : Int) ++ pcat (l.take i) ++ nputText n ++ nput p by rw [pcat_succ hget]; simp)
      have hil2 : (i : Int) < l.length := by omega
      have hz0 : ∀ x : Nat, (0 : Int) ≤ (x : Int) := fun x => by omega
      have hbw := Nat.lt_of_lt_of_le hb hx.size
      replace hc1 := (hx.cell (p := ⟨b, off + i * 2, none⟩) hb).trans hc1
      replace hc2 := (hx.cell (p := ⟨b, off + i * 2 + 1, none⟩) hb).trans hc2
      have hzr := hx.size
      have HA := Lib.hid hall
      have hob := how.bs
      clear hcell hget hall
      have hbx := Blk.new wr #[strV n, .int .i64 p] 45
      have hzr2 : w.heap.size ≤ (wr.alloc (.cells #[strV n, .int .i64 p] 45)).heap.size := by simp; omega
      have hx2 : Ext w (wr.alloc (.cells #[strV n, .int .i64 p] 45)) := Ext.trans hx (ext_alloc _ _)
      replace hob := hob.ext (ext_alloc wr (.cells #[strV n, .int .i64 p] 45))
      unfold strV at hc1
      go_wp2_with fail
      refine wp_region_mono (by kernel_rfl) (by kernel_rfl) ?_
      refine tele_move rfl (.inl rfl) rfl (isV (u5)) (fun ρ w' h => h) ?_
      refine tele_val rfl (.pointer (some ⟨wr.heap.size, 0, none⟩)) (fun _ _ _ => rfl) ?_ ?_
      · rintro ρ w' he ⟨h7, -⟩
        have e7 : ρ 7 = (.pointer (some ⟨wr.heap.size, 0, none⟩)) := h7
        simp [execOp, evR, e7, go_sem]
      refine tele_val rfl (strV n) (fun _ _ _ => rfl) ?_ ?_
      · rintro ρ w' he ⟨h23, -⟩
        have e23 : ρ 23 = (.pointer (some ⟨wr.heap.size, 0, none⟩)) := h23
        have c := (hbx.ext he).cell (i := 0) rfl
        simp [execOp, evR, e23, c, go_sem]
      refine tele_call rfl rfl Try.func31 (by kernel_rfl) (isOw w.heap.size ((nput (l.length : Int) ++ pcat (l.take i)) ++ nputText n)) (fun _ _ _ => rfl) ?_ ?_
      · rintro ρ w' he ⟨h22, h24, -⟩
        have e22 : ρ 22 = (u5) := h22
        have e24 : ρ 24 = (strV n) := h24
        simp only [evR, List.map_toArray, List.map_cons, List.map_nil, e22, e24]
        refine (numPutText_any _ _ n _ (hob.ext he) (by omega)).mono ?_
        rintro e w'' ⟨r, rfl, h, he'⟩
        exact ⟨_, rfl, he', OwB.mono h (Nat.le_trans hzr2 he.size)⟩
      refine tele_val rfl (.pointer (some ⟨wr.heap.size, 1, none⟩)) (fun _ _ _ => rfl) ?_ ?_
      · rintro ρ w' he ⟨h7, -⟩
        have e7 : ρ 7 = (.pointer (some ⟨wr.heap.size, 0, none⟩)) := h7
        simp [execOp, evR, e7, go_sem]
      refine tele_val rfl (.int .i64 p) (fun _ _ _ => rfl) ?_ ?_
      · rintro ρ w' he ⟨h26, -⟩
        have e26 : ρ 26 = (.pointer (some ⟨wr.heap.size, 1, none⟩)) := h26
        have c := (hbx.ext he).cell (i := 1) rfl
        simp [execOp, evR, e26, c, go_sem]
      refine tele_call rfl rfl Try.func30 (by kernel_rfl) (isOw w.heap.size (nput (l.length : Int) ++ pcat (l.take (i + 1)))) (fun _ _ _ => rfl) ?_ ?_
      · rintro ρ w' he ⟨h25, h27, -⟩
        have e25 : (isOw w.heap.size ((nput (l.length : Int) ++ pcat (l.take i)) ++ nputText n)).rel (ρ 25) w' := h25
        have e27 : ρ 27 = (.int .i64 p) := h27
        simp only [evR, List.map_toArray, List.map_cons, List.map_nil, e27]
        refine (numPut_any _ _ p _ (OwB.bs e25) (by rw [List.length_append]; have := hnt; omega) hp).mono ?_
        rintro e w'' ⟨r, rfl, h, he'⟩
        rw [← HT.out] at h
        exact ⟨_, rfl, he', OwB.mono h (Nat.le_trans hzr2 he.size)⟩
      refine tele_move rfl (.inr rfl) rfl (isOw w.heap.size (nput (l.length : Int) ++ pcat (l.take (i + 1)))) (fun ρ w' h => h) ?_
      refine tele_nil ?_
      rintro ρ w' hext ⟨f5, f28, f27, f26, f25, f24, f23, f22, -⟩
      replace f22 : ρ 22 = (u5) := f22
      replace f23 : ρ 23 = (.pointer (some ⟨wr.heap.size, 0, none⟩)) := f23
      replace f24 : ρ 24 = (strV n) := f24
      replace f25 : (isOw w.heap.size ((nput (l.length : Int) ++ pcat (l.take i)) ++ nputText n)).rel (ρ 25) w' := f25
      replace f26 : ρ 26 = (.pointer (some ⟨wr.heap.size, 1, none⟩)) := f26
      replace f27 : ρ 27 = (.int .i64 p) := f27
      replace f28 : (isOw w.heap.size (nput (l.length : Int) ++ pcat (l.take (i + 1)))).rel (ρ 28) w' := f28
      replace f5 : (isOw w.heap.size (nput (l.length : Int) ++ pcat (l.take (i + 1)))).rel (ρ 5) w' := f5
      simp only [puts, Act.put, List.setIfInBounds_toArray, List.set_cons_zero, List.set_cons_succ]
      go_wp2_with fail
      go_roundw
      case rel => exact ⟨i + 1, by omega, by go_num, f5, Ext.trans hx2 hext⟩
      case measure => simp [intOf]; omega
     · have hil : i = l.length := by omega
       subst hil
       rw [List.take_length] at how
       go_wp2_with fail
       go_ret2
       exact ⟨_, by rw [HF.out]; rfl, by rw [HF.out]; exact how, hx⟩
  · have HF := Lib.hid (show penc l = ([], e) by subst hpe; unfold penc; rw [if_pos he0])
    have he1 : ((e : Int) != 0) = true := by rw [bne_iff_ne]; omega
    clear hpe he0
    go_enter Try.func20, Try.ntmps20
    go_wp2_with fail
    refine (HG.out _ hV).mono ?_
    rintro e w1 ⟨rfl, x1⟩
    clear HG
    go_wp2_with fail
    go_ret2
    exact ⟨_, by rw [HF.out]; rfl, by rw [HF.out]; exact OwB.nil_ _ _, x1⟩

set_option maxHeartbeats 2000000 in
theorem refBytes_any (v : Value) (l : List Grp) (w : World) (hv : Gs w v l) (hpe : pgood l = 0) :
    Calls Try.prog 32 #[v] w fun e w' => ∃ r, e = .returned r ∧ OwB w' w.heap.size r (pbytes l) ∧ Ext w w' := by
  have hV := hv
  obtain ⟨A, c, rfl, h1, h2, h3, h4⟩ := hv.at_
  obtain ⟨hl0, hl4, hall⟩ := pgood_ok hpe
  obtain ⟨b, off, rfl, hb, hcell⟩ := h4 hl0
  clear hpe h4
  go_enter Try.func32, Try.ntmps32
  go_wp2_with fail
  refine (refPut_any _ [] l.length _ (Bs.nil_ _) (by simp) (by omega)).mono ?_
  rintro e w2 ⟨r, rfl, hr, x2⟩
  rw [List.nil_append] at hr
  go_wp2_with fail
  go_loopw [3, 4] (fun v i wr => ∃ k : Nat, k ≤ l.length ∧ i = .int .i64 k ∧ OwB wr w.heap.size v (nput (l.length : Int) ++ pcat (l.take k)) ∧ Ext w wr) (fun _ i _ => l.length - (intOf i).toNat)
  case atStart => exact ⟨0, Nat.zero_le _, rfl, by simpa [pcat] using hr, x2⟩
  case round =>
     obtain ⟨i, hi, rfl, how, hx⟩ := hrel
     by_cases hlt : i < l.length
     ·
      obtain ⟨n, p, hget, hc1, hc2, hn, hp⟩ := hcell i hlt
      have hnl := (hall _ (List.mem_of_getElem? hget)).1
      dsimp only at hnl
      have hpl := pcat_take_len hall hl4 i
      have hns := nsize_le (l.length : Int)
      have hol : (nput (l.length : Int) ++ pcat (l.take i)).length ≤ 200 := by rw [List.length_append, nput_length]; omega
      have hnt : (nputText n).length ≤ 30 := by have := nsize_le (n.length : Int); unfold nputText; rw [List.length_append, nput_length]; omega
      have HT := Lib.hid (show nput (l.length : Int) ++ pcat (l.take (i + 1)) = nput (l.length : Int) ++ pcat (l.take i) ++ nputText n ++ nput p by rw [pcat_succ hget]; simp)
      have hil2 : (i : Int) < l.length := by omega
      have hz0 : ∀ x : Nat, (0 : Int) ≤ (x : Int) := fun x => by omega
      have hbw := Nat.lt_of_lt_of_le hb hx.size
      replace hc1 := (hx.cell (p := ⟨b, off + i * 2, none⟩) hb).trans hc1
      replace hc2 := (hx.cell (p := ⟨b, off + i * 2 + 1, none⟩) hb).trans hc2
      have hzr := hx.size
      have HA := Lib.hid hall
      have hob := how.bs
      clear hcell hget hall
      go_wp2_with fail
      refine wp_region_mono (by kernel_rfl) (by kernel_rfl) ?_
      refine tele_move rfl (.inl rfl) rfl (isV (u3)) (fun ρ w' h => h) ?_
      refine tele_move rfl (.inl rfl) rfl (isV (.slice (some ⟨b, off, none⟩) l.length c)) (fun ρ w' h => h) ?_
      refine tele_move rfl (.inl rfl) rfl (isV (.int .i64 (i : Int))) (fun ρ w' h => h) ?_
      refine tele_val rfl (.pointer (some ⟨b, off + i * 2, none⟩)) (fun _ _ _ => rfl) ?_ ?_
      · rintro ρ w' he ⟨h15, h16, -⟩
        have e15 : ρ 15 = (.slice (some ⟨b, off, none⟩) l.length c) := h15
        have e16 : ρ 16 = (.int .i64 (i : Int)) := h16
        simp [execOp, evR, e15, e16, hil2, hz0, add_at, go_sem]
      refine tele_val rfl (.pointer (some ⟨b, off + i * 2, none⟩)) (fun _ _ _ => rfl) ?_ ?_
      · rintro ρ w' he ⟨h17, -⟩
        have e17 : ρ 17 = (.pointer (some ⟨b, off + i * 2, none⟩)) := h17
        simp [execOp, evR, e17, go_sem]
      refine tele_val rfl (strV n) (fun _ _ _ => rfl) ?_ ?_
      · rintro ρ w' he ⟨h18, -⟩
        have e18 : ρ 18 = (.pointer (some ⟨b, off + i * 2, none⟩)) := h18
        have c := (he.cell (p := ⟨b, off + i * 2, none⟩) hbw).trans hc1
        simp [execOp, evR, e18, c, go_sem]
      refine tele_call rfl rfl Try.func39 (by kernel_rfl) (isOw w.heap.size ((nput (l.length : Int) ++ pcat (l.take i)) ++ nputText n)) (fun _ _ _ => rfl) ?_ ?_
      · rintro ρ w' he ⟨h14, h19, -⟩
        have e14 : ρ 14 = (u3) := h14
        have e19 : ρ 19 = (strV n) := h19
        simp only [evR, List.map_toArray, List.map_cons, List.map_nil, e14, e19]
        refine (refPutText_any _ _ n _ (hob.ext he) (by omega)).mono ?_
        rintro e w'' ⟨r, rfl, h, he'⟩
        exact ⟨_, rfl, he', OwB.mono h (Nat.le_trans hzr he.size)⟩
      refine tele_move rfl (.inl rfl) rfl (isV (.slice (some ⟨b, off, none⟩) l.length c)) (fun ρ w' h => h) ?_
      refine tele_move rfl (.inl rfl) rfl (isV (.int .i64 (i : Int))) (fun ρ w' h => h) ?_
      refine tele_val rfl (.pointer (some ⟨b, off + i * 2, none⟩)) (fun _ _ _ => rfl) ?_ ?_
      · rintro ρ w' he ⟨h21, h22, -⟩
        have e21 : ρ 21 = (.slice (some ⟨b, off, none⟩) l.length c) := h21
        have e22 : ρ 22 = (.int .i64 (i : Int)) := h22
        simp [execOp, evR, e21, e22, hil2, hz0, add_at, go_sem]
      refine tele_val rfl (.pointer (some ⟨b, off + i * 2 + 1, none⟩)) (fun _ _ _ => rfl) ?_ ?_
      · rintro ρ w' he ⟨h23, -⟩
        have e23 : ρ 23 = (.pointer (some ⟨b, off + i * 2, none⟩)) := h23
        simp [execOp, evR, e23, add_at, go_sem]
      refine tele_val rfl (.int .i64 p) (fun _ _ _ => rfl) ?_ ?_
      · rintro ρ w' he ⟨h24, -⟩
        have e24 : ρ 24 = (.pointer (some ⟨b, off + i * 2 + 1, none⟩)) := h24
        have c := (he.cell (p := ⟨b, off + i * 2 + 1, none⟩) hbw).trans hc2
        simp [execOp, evR, e24, c, go_sem]
      refine tele_call rfl rfl Try.func38 (by kernel_rfl) (isOw w.heap.size (nput (l.length : Int) ++ pcat (l.take (i + 1)))) (fun _ _ _ => rfl) ?_ ?_
      · rintro ρ w' he ⟨h20, h25, -⟩
        have e20 : (isOw w.heap.size ((nput (l.length : Int) ++ pcat (l.take i)) ++ nputText n)).rel (ρ 20) w' := h20
        have e25 : ρ 25 = (.int .i64 p) := h25
        simp only [evR, List.map_toArray, List.map_cons, List.map_nil, e25]
        refine (refPut_any _ _ p _ (OwB.bs e20) (by rw [List.length_append]; have := hnt; omega) hp).mono ?_
        rintro e w'' ⟨r, rfl, h, he'⟩
        rw [← HT.out] at h
        exact ⟨_, rfl, he', OwB.mono h (Nat.le_trans hzr he.size)⟩
      refine tele_move rfl (.inr rfl) rfl (isOw w.heap.size (nput (l.length : Int) ++ pcat (l.take (i + 1)))) (fun ρ w' h => h) ?_
      refine tele_nil ?_
      rintro ρ w' hext ⟨f3, f26, f25, f24, f23, f22, f21, f20, f19, f18, f17, f16, f15, f14, -⟩
      replace f14 : ρ 14 = (u3) := f14
      replace f15 : ρ 15 = (.slice (some ⟨b, off, none⟩) l.length c) := f15
      replace f16 : ρ 16 = (.int .i64 (i : Int)) := f16
      replace f17 : ρ 17 = (.pointer (some ⟨b, off + i * 2, none⟩)) := f17
      replace f18 : ρ 18 = (.pointer (some ⟨b, off + i * 2, none⟩)) := f18
      replace f19 : ρ 19 = (strV n) := f19
      replace f20 : (isOw w.heap.size ((nput (l.length : Int) ++ pcat (l.take i)) ++ nputText n)).rel (ρ 20) w' := f20
      replace f21 : ρ 21 = (.slice (some ⟨b, off, none⟩) l.length c) := f21
      replace f22 : ρ 22 = (.int .i64 (i : Int)) := f22
      replace f23 : ρ 23 = (.pointer (some ⟨b, off + i * 2, none⟩)) := f23
      replace f24 : ρ 24 = (.pointer (some ⟨b, off + i * 2 + 1, none⟩)) := f24
      replace f25 : ρ 25 = (.int .i64 p) := f25
      replace f26 : (isOw w.heap.size (nput (l.length : Int) ++ pcat (l.take (i + 1)))).rel (ρ 26) w' := f26
      replace f3 : (isOw w.heap.size (nput (l.length : Int) ++ pcat (l.take (i + 1)))).rel (ρ 3) w' := f3
      simp only [puts, Act.put, List.setIfInBounds_toArray, List.set_cons_zero, List.set_cons_succ]
      go_wp2_with fail
      go_roundw
      case rel => exact ⟨i + 1, by omega, by go_num, f3, Ext.trans hx hext⟩
      case measure => simp [intOf]; omega
     · have hil : i = l.length := by omega
       subst hil
       rw [List.take_length] at how
       go_wp2_with fail
       go_ret
       exact ⟨_, rfl, how, hx⟩
set_option maxHeartbeats 2000000 in
theorem refEncode_any (v : Value) (l : List Grp) (w : World) (hv : Gs w v l) :
    Calls Try.prog 21 #[v] w fun e w' => ∃ r, e = .returned (.tuple #[r, .int .i64 ((penc l).2 : Int)]) ∧ OwB w' w.heap.size r (penc l).1 ∧ Ext w w' := by
  have hV := hv
  obtain ⟨A, c, rfl, h1, h2, h3, h4⟩ := hv.at_
  have HG := Lib.hid (fun w hw => refGood_any (.slice A l.length c) l w hw)
  obtain ⟨e, hpe⟩ : ∃ e, pgood l = e := ⟨_, rfl⟩
  rw [hpe] at HG
  by_cases he0 : e = 0
  · subst he0
    have HF := Lib.hid (show penc l = (pbytes l, 0) by unfold penc; rw [if_neg (by simp [hpe])])
    have HP := Lib.hid hpe
    clear hpe h4
    go_enter Try.func21, Try.ntmps21
    go_wp2_with fail
    refine (HG.out _ hV).mono ?_
    rintro e w1 ⟨rfl, x1⟩
    clear HG
    go_wp2_with fail
    refine (refBytes_any _ l _ (hV.ext x1) HP.out).mono ?_
    rintro e w2 ⟨r, rfl, hr, x2⟩
    go_wp2_with fail
    go_ret2
    exact ⟨_, by rw [HF.out]; rfl, by rw [HF.out]; exact OwB.mono hr x1.size, Ext.trans x1 x2⟩
  · have HF := Lib.hid (show penc l = ([], e) by subst hpe; unfold penc; rw [if_pos he0])
    have he1 : ((e : Int) != 0) = true := by rw [bne_iff_ne]; omega
    clear hpe he0
    go_enter Try.func21, Try.ntmps21
    go_wp2_with fail
    refine (HG.out _ hV).mono ?_
    rintro e w1 ⟨rfl, x1⟩
    clear HG
    go_wp2_with fail
    go_ret2
    exact ⟨_, by rw [HF.out]; rfl, by rw [HF.out]; exact OwB.nil_ _ _, x1⟩
end Go.Proofs.Ytjamopclfpmgjaa
