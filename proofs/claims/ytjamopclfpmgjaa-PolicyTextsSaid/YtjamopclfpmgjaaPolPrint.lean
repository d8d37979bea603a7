/-
  The walks of Print, and of the document's own.
-/
import Derived.Test.YtjamopclfpmgjaaPolLives
namespace Go.Proofs.Ytjamopclfpmgjaa
open Go Go.RowKit Mono Num
set_option linter.unusedVariables false
set_option linter.unusedSimpArgs false

def tone (i : Nat) (g : Grp) : List UInt8 := (if i = 0 then [] else [44]) ++ (g.1 ++ 61 :: wordOf g.2)
def ptextF : Nat → List Grp → List UInt8
  | _, [] => []
  | i, g :: r => tone i g ++ ptextF (i + 1) r
/-- A schema's text. -/
def ptext (l : List Grp) : List UInt8 := ptextF 0 l
def pprint (l : List Grp) : List UInt8 × Nat := if pgood l ≠ 0 then ([], pgood l) else (ptext l, 0)
theorem ptextF_append : ∀ (a b : List Grp) (i : Nat), ptextF i (a ++ b) = ptextF i a ++ ptextF (i + a.length) b
  | [], b, i => by simp [ptextF]
  | g :: a, b, i => by
    simp only [List.cons_append, ptextF, ptextF_append a b (i + 1), List.append_assoc, List.length_cons]
    congr 3
    omega
theorem ptext_succ {l : List Grp} {i : Nat} {n : List UInt8} {p : Int} (h : l[i]? = some (n, p)) : ptext (l.take (i + 1)) = ptext (l.take i) ++ tone i (n, p) := by
  have hi : i < l.length := (List.getElem?_eq_some_iff.1 h).1
  unfold ptext
  rw [List.take_add_one, h, Option.toList_some, ptextF_append, List.length_take, Nat.min_eq_left (by omega), Nat.zero_add]
  simp [ptextF]
theorem str_append (a b : List UInt8) : (⟨a.toArray⟩ : ByteArray) ++ ⟨b.toArray⟩ = ⟨(a ++ b).toArray⟩ := by
  apply ByteArray.ext
  simp [ByteArray.data_append]
theorem exec_add_str {P : Program} {w : World} {o : Oper} {t t2 : TypeId} {x y : Operand} {f : Operand → Value} {a b : List UInt8} (hop : o.op = .binOp .add t x y t2) (hx : f x = strV a) (hy : f y = strV b) (hl : a.length + b.length ≤ 100000) :
    (execOp f o).run P w = .ok (.value (strV (a ++ b))) w := by
  unfold strV at *
  simp [execOp, hop, hx, hy, go_sem]
  rw [if_neg (by omega), str_append]
theorem tone_len (i : Nat) (g : Grp) (h : g.1.length ≤ 12) : (tone i g).length ≤ 20 := by
  unfold tone wordOf lastW delW
  simp only [List.length_append, List.length_cons]
  have h1 : (if i = 0 then ([] : List UInt8) else [44]).length ≤ 1 := by split <;> simp
  have h2 : (if g.2 = 1 then ([108, 97, 115, 116] : List UInt8) else [100, 101, 108, 101, 116, 101]).length ≤ 6 := by split <;> simp
  omega
theorem ptextF_len : ∀ (l : List Grp) (i : Nat), (∀ g ∈ l, g.1.length ≤ 12) → (ptextF i l).length ≤ 20 * l.length
  | [], _, _ => by simp [ptextF]
  | g :: r, i, h => by
    have h1 := tone_len i g (h g (by simp))
    have h2 := ptextF_len r (i + 1) (fun x hx => h x (by simp [hx]))
    simp only [ptextF, List.length_append, List.length_cons]
    omega
theorem ptext_take_len {l : List Grp} (h : ∀ g ∈ l, g.1.length ≤ 12 ∧ (g.2 = 1 ∨ g.2 = 2)) (hl : l.length ≤ 4) (i : Nat) : (ptext (l.take i)).length ≤ 80 := by
  have := ptextF_len (l.take i) 0 (fun g hg => (h g (List.mem_of_mem_take hg)).1)
  have h2 : (l.take i).length ≤ l.length := by rw [List.length_take]; omega
  unfold ptext
  omega
theorem word_len (p : Int) : (wordOf p).length ≤ 6 := by unfold wordOf lastW delW; split <;> simp

set_option maxHeartbeats 4000000 in
theorem polPrint_any (v : Value) (l : List Grp) (w : World) (hv : Gs w v l) :
    Calls Try.prog 9 #[v] w fun e w' => e = .returned (.tuple #[strV (pprint l).1, .int .i64 ((pprint l).2 : Int)]) ∧ Ext w w' := by
  have hV := hv
  obtain ⟨A, c, rfl, h1, h2, h3, h4⟩ := hv.at_
  have HG := Lib.hid (fun w hw => polGood_any (.slice A l.length c) l w hw)
  obtain ⟨e, hpe⟩ : ∃ e, pgood l = e := ⟨_, rfl⟩
  rw [hpe] at HG
  by_cases he0 : e = 0
  · subst he0
    have HF := Lib.hid (show pprint l = (ptext l, 0) by unfold pprint; rw [if_neg (by simp [hpe])])
    obtain ⟨hl0, hl4, hall⟩ := pgood_ok hpe
    obtain ⟨b, off, rfl, hb, hcell⟩ := h4 hl0
    clear hpe h4
    go_enter Try.func9, Try.ntmps9
    go_wp2_with fail
    refine (HG.out _ hV).mono ?_
    rintro e w1 ⟨rfl, x1⟩
    clear HG
    go_wp2_with fail
    go_loopw [5, 15] (fun v i wr => ∃ k : Nat, k ≤ l.length ∧ i = .int .i64 k ∧ v = strV (ptext (l.take k)) ∧ Ext w wr) (fun _ i _ => l.length - (intOf i).toNat)
    case atStart => exact ⟨0, Nat.zero_le _, rfl, rfl, x1⟩
    case round =>
      obtain ⟨i, hi, rfl, rfl, hx⟩ := hrel
      by_cases hlt : i < l.length
      · obtain ⟨n, p, hget, hc1, hc2, hn, hp⟩ := hcell i hlt
        have hnl := (hall _ (List.mem_of_getElem? hget)).1
        dsimp only at hnl
        have hpl := ptext_take_len hall hl4 i
        have hwl := word_len p
        have HT := Lib.hid (ptext_succ hget)
        replace hc1 := (hx.cell (p := ⟨b, off + i * 2, none⟩) hb).trans hc1
        replace hc2 := (hx.cell (p := ⟨b, off + i * 2 + 1, none⟩) hb).trans hc2
        have HA := Lib.hid hall
        clear hcell hget hall
        generalize ptext (l.take i) = S at *
        have hbx := Blk.new wr #[strV n, .int .i64 p] 45
        have hx2 : Ext w (wr.alloc (.cells #[strV n, .int .i64 p] 45)) := Ext.trans hx (ext_alloc _ _)
        unfold strV at hc1 hbx hx2 ⊢
        by_cases hi0 : i = 0
        · subst hi0
          simp only [Nat.zero_mul, Nat.add_zero] at hc1 hc2
          go_wp2_with fail
          refine wp_region_mono (by kernel_rfl) (by kernel_rfl) ?_
          refine tele_move rfl (.inl rfl) rfl (isV (strV (S))) (fun ρ w' h => h) ?_
          refine tele_val rfl (.pointer (some ⟨wr.heap.size, 0, none⟩)) (fun _ _ _ => rfl) ?_ ?_
          · rintro ρ w' he ⟨h7, -⟩
            have e7 : ρ 7 = (.pointer (some ⟨wr.heap.size, 0, none⟩)) := h7
            simp [execOp, evR, e7, go_sem]
          refine tele_val rfl (strV n) (fun _ _ _ => rfl) ?_ ?_
          · rintro ρ w' he ⟨h25, -⟩
            have e25 : ρ 25 = (.pointer (some ⟨wr.heap.size, 0, none⟩)) := h25
            have c := (hbx.ext he).cell (i := 0) rfl
            simp [execOp, evR, e25, c, strV, go_sem]
          refine tele_val rfl (strV (n ++ [61])) (fun _ _ _ => rfl) ?_ ?_
          · rintro ρ w' he ⟨h26, -⟩
            have e26 : ρ 26 = (strV n) := h26
            exact exec_add_str rfl e26 (show _ = strV [61] from rfl) (by simp; omega)
          refine tele_val rfl (.pointer (some ⟨wr.heap.size, 1, none⟩)) (fun _ _ _ => rfl) ?_ ?_
          · rintro ρ w' he ⟨h7, -⟩
            have e7 : ρ 7 = (.pointer (some ⟨wr.heap.size, 0, none⟩)) := h7
            simp [execOp, evR, e7, go_sem]
          refine tele_val rfl (.int .i64 p) (fun _ _ _ => rfl) ?_ ?_
          · rintro ρ w' he ⟨h28, -⟩
            have e28 : ρ 28 = (.pointer (some ⟨wr.heap.size, 1, none⟩)) := h28
            have c := (hbx.ext he).cell (i := 1) rfl
            simp [execOp, evR, e28, c, go_sem]
          refine tele_call rfl rfl Try.func24 (by kernel_rfl) (isV (strV (wordOf p))) (fun _ _ _ => rfl) ?_ ?_
          · rintro ρ w' he ⟨h29, -⟩
            have e29 : ρ 29 = (.int .i64 p) := h29
            simp only [evR, List.map_toArray, List.map_cons, List.map_nil, e29]
            refine (word_any p _).mono ?_
            rintro e w'' ⟨rfl, rfl⟩
            exact ⟨_, rfl, Ext.refl _, rfl⟩
          refine tele_val rfl (strV (n ++ [61] ++ wordOf p)) (fun _ _ _ => rfl) ?_ ?_
          · rintro ρ w' he ⟨h27, h30, -⟩
            have e27 : ρ 27 = (strV (n ++ [61])) := h27
            have e30 : ρ 30 = (strV (wordOf p)) := h30
            exact exec_add_str rfl e27 e30 (by simp; omega)
          refine tele_val rfl (strV (S ++ (n ++ [61] ++ wordOf p))) (fun _ _ _ => rfl) ?_ ?_
          · rintro ρ w' he ⟨h24, h31, -⟩
            have e24 : ρ 24 = (strV (S)) := h24
            have e31 : ρ 31 = (strV (n ++ [61] ++ wordOf p)) := h31
            exact exec_add_str rfl e24 e31 (by simp; omega)
          refine tele_move rfl (.inr rfl) rfl (isV (strV (S ++ (n ++ [61] ++ wordOf p)))) (fun ρ w' h => h) ?_
          refine tele_nil ?_
          rintro ρ w' hext ⟨f5, f32, f31, f30, f29, f28, f27, f26, f25, f24, -⟩
          replace f24 : ρ 24 = (strV (S)) := f24
          replace f25 : ρ 25 = (.pointer (some ⟨wr.heap.size, 0, none⟩)) := f25
          replace f26 : ρ 26 = (strV n) := f26
          replace f27 : ρ 27 = (strV (n ++ [61])) := f27
          replace f28 : ρ 28 = (.pointer (some ⟨wr.heap.size, 1, none⟩)) := f28
          replace f29 : ρ 29 = (.int .i64 p) := f29
          replace f30 : ρ 30 = (strV (wordOf p)) := f30
          replace f31 : ρ 31 = (strV (n ++ [61] ++ wordOf p)) := f31
          replace f32 : ρ 32 = (strV (S ++ (n ++ [61] ++ wordOf p))) := f32
          replace f5 : ρ 5 = (strV (S ++ (n ++ [61] ++ wordOf p))) := f5
          simp only [puts, Act.put, List.setIfInBounds_toArray, List.set_cons_zero, List.set_cons_succ]
          go_wp2_with fail
          go_roundw
          case rel => exact ⟨0 + 1, by omega, by go_num, by rw [HT.out]; rw [f5]; simp [tone, strV], Ext.trans hx2 hext⟩
          case measure => simp [intOf]; omega
        · have hi1 : 0 < i := by omega
          have hia : 0 < (i : Int) := by omega
          have hap := str_append
          go_wp2_with fail
          clear hap
          refine wp_region_mono (by kernel_rfl) (by kernel_rfl) ?_
          refine tele_move rfl (.inl rfl) rfl (isV (strV (S ++ [44]))) (fun ρ w' h => h) ?_
          refine tele_val rfl (.pointer (some ⟨wr.heap.size, 0, none⟩)) (fun _ _ _ => rfl) ?_ ?_
          · rintro ρ w' he ⟨h7, -⟩
            have e7 : ρ 7 = (.pointer (some ⟨wr.heap.size, 0, none⟩)) := h7
            simp [execOp, evR, e7, go_sem]
          refine tele_val rfl (strV n) (fun _ _ _ => rfl) ?_ ?_
          · rintro ρ w' he ⟨h25, -⟩
            have e25 : ρ 25 = (.pointer (some ⟨wr.heap.size, 0, none⟩)) := h25
            have c := (hbx.ext he).cell (i := 0) rfl
            simp [execOp, evR, e25, c, strV, go_sem]
          refine tele_val rfl (strV (n ++ [61])) (fun _ _ _ => rfl) ?_ ?_
          · rintro ρ w' he ⟨h26, -⟩
            have e26 : ρ 26 = (strV n) := h26
            exact exec_add_str rfl e26 (show _ = strV [61] from rfl) (by simp; omega)
          refine tele_val rfl (.pointer (some ⟨wr.heap.size, 1, none⟩)) (fun _ _ _ => rfl) ?_ ?_
          · rintro ρ w' he ⟨h7, -⟩
            have e7 : ρ 7 = (.pointer (some ⟨wr.heap.size, 0, none⟩)) := h7
            simp [execOp, evR, e7, go_sem]
          refine tele_val rfl (.int .i64 p) (fun _ _ _ => rfl) ?_ ?_
          · rintro ρ w' he ⟨h28, -⟩
            have e28 : ρ 28 = (.pointer (some ⟨wr.heap.size, 1, none⟩)) := h28
            have c := (hbx.ext he).cell (i := 1) rfl
            simp [execOp, evR, e28, c, go_sem]
          refine tele_call rfl rfl Try.func24 (by kernel_rfl) (isV (strV (wordOf p))) (fun _ _ _ => rfl) ?_ ?_
          · rintro ρ w' he ⟨h29, -⟩
            have e29 : ρ 29 = (.int .i64 p) := h29
            simp only [evR, List.map_toArray, List.map_cons, List.map_nil, e29]
            refine (word_any p _).mono ?_
            rintro e w'' ⟨rfl, rfl⟩
            exact ⟨_, rfl, Ext.refl _, rfl⟩
          refine tele_val rfl (strV (n ++ [61] ++ wordOf p)) (fun _ _ _ => rfl) ?_ ?_
          · rintro ρ w' he ⟨h27, h30, -⟩
            have e27 : ρ 27 = (strV (n ++ [61])) := h27
            have e30 : ρ 30 = (strV (wordOf p)) := h30
            exact exec_add_str rfl e27 e30 (by simp; omega)
          refine tele_val rfl (strV (S ++ [44] ++ (n ++ [61] ++ wordOf p))) (fun _ _ _ => rfl) ?_ ?_
          · rintro ρ w' he ⟨h24, h31, -⟩
            have e24 : ρ 24 = (strV (S ++ [44])) := h24
            have e31 : ρ 31 = (strV (n ++ [61] ++ wordOf p)) := h31
            exact exec_add_str rfl e24 e31 (by simp; omega)
          refine tele_move rfl (.inr rfl) rfl (isV (strV (S ++ [44] ++ (n ++ [61] ++ wordOf p)))) (fun ρ w' h => h) ?_
          refine tele_nil ?_
          rintro ρ w' hext ⟨f5, f32, f31, f30, f29, f28, f27, f26, f25, f24, -⟩
          replace f24 : ρ 24 = (strV (S ++ [44])) := f24
          replace f25 : ρ 25 = (.pointer (some ⟨wr.heap.size, 0, none⟩)) := f25
          replace f26 : ρ 26 = (strV n) := f26
          replace f27 : ρ 27 = (strV (n ++ [61])) := f27
          replace f28 : ρ 28 = (.pointer (some ⟨wr.heap.size, 1, none⟩)) := f28
          replace f29 : ρ 29 = (.int .i64 p) := f29
          replace f30 : ρ 30 = (strV (wordOf p)) := f30
          replace f31 : ρ 31 = (strV (n ++ [61] ++ wordOf p)) := f31
          replace f32 : ρ 32 = (strV (S ++ [44] ++ (n ++ [61] ++ wordOf p))) := f32
          replace f5 : ρ 5 = (strV (S ++ [44] ++ (n ++ [61] ++ wordOf p))) := f5
          simp only [puts, Act.put, List.setIfInBounds_toArray, List.set_cons_zero, List.set_cons_succ]
          go_wp2_with fail
          go_roundw
          case rel => exact ⟨i + 1, by omega, by go_num, by rw [HT.out]; rw [f5]; simp [tone, strV, hi0], Ext.trans hx2 hext⟩
          case measure => simp [intOf]; omega
      · have hil : i = l.length := by omega
        subst hil
        rw [List.take_length]
        go_wp2_with fail
        go_ret2
        exact ⟨by rw [HF.out]; rfl, hx⟩
  · have HF := Lib.hid (show pprint l = ([], e) by subst hpe; unfold pprint; rw [if_pos he0])
    have he1 : ((e : Int) != 0) = true := by rw [bne_iff_ne]; omega
    clear hpe he0
    go_enter Try.func9, Try.ntmps9
    go_wp2_with fail
    refine (HG.out _ hV).mono ?_
    rintro e w1 ⟨rfl, x1⟩
    clear HG
    go_wp2_with fail
    go_ret2
    exact ⟨by rw [HF.out]; rfl, x1⟩

set_option maxHeartbeats 4000000 in
theorem refText_any (v : Value) (l : List Grp) (w : World) (hv : Gs w v l) (hpe : pgood l = 0) :
    Calls Try.prog 25 #[v] w fun e w' => e = .returned (strV (ptext l)) ∧ Ext w w' := by
  have hV := hv
  obtain ⟨A, c, rfl, h1, h2, h3, h4⟩ := hv.at_
  obtain ⟨hl0, hl4, hall⟩ := pgood_ok hpe
  obtain ⟨b, off, rfl, hb, hcell⟩ := h4 hl0
  clear hpe h4
  go_enter Try.func25, Try.ntmps25
  go_wp2_with fail
  go_loopw [3, 4] (fun v i wr => ∃ k : Nat, k ≤ l.length ∧ i = .int .i64 k ∧ v = strV (ptext (l.take k)) ∧ Ext w wr) (fun _ i _ => l.length - (intOf i).toNat)
  case atStart => exact ⟨0, Nat.zero_le _, rfl, rfl, Ext.refl _⟩
  case round =>
      obtain ⟨i, hi, rfl, rfl, hx⟩ := hrel
      by_cases hlt : i < l.length
      · obtain ⟨n, p, hget, hc1, hc2, hn, hp⟩ := hcell i hlt
        have hnl := (hall _ (List.mem_of_getElem? hget)).1
        dsimp only at hnl
        have hpl := ptext_take_len hall hl4 i
        have hwl := word_len p
        have HT := Lib.hid (ptext_succ hget)
        replace hc1 := (hx.cell (p := ⟨b, off + i * 2, none⟩) hb).trans hc1
        replace hc2 := (hx.cell (p := ⟨b, off + i * 2 + 1, none⟩) hb).trans hc2
        have HA := Lib.hid hall
        clear hcell hget hall
        generalize ptext (l.take i) = S at *
        unfold strV at hc1 ⊢
        have hap := str_append
        have hw1 : p = 1 → wordOf p = [108, 97, 115, 116] := fun h => by unfold wordOf; rw [if_pos h]; rfl
        have hw2 : ¬ p = 1 → wordOf p = [100, 101, 108, 101, 116, 101] := fun h => by unfold wordOf; rw [if_neg h]; rfl
        have HW1 := Lib.hid hw1
        have HW2 := Lib.hid hw2
        clear hw1 hw2
        by_cases hi0 : i = 0
        · subst hi0
          simp only [Nat.zero_mul, Nat.add_zero] at hc1 hc2
          by_cases hp1 : p = 1
          · have HW := Lib.hid (HW1.out hp1)
            subst hp1
            go_wp2_with fail
            clear hap
            go_roundw
            case rel => exact ⟨0 + 1, by omega, by go_num, by rw [HT.out]; unfold tone; rw [HW.out]; simp, hx⟩
            case measure => simp [intOf]; omega
          · have HW := Lib.hid (HW2.out hp1)
            have hpb : (p == 1) = false := by simpa using hp1
            clear hp1
            go_wp2_with fail
            clear hap
            go_roundw
            case rel => exact ⟨0 + 1, by omega, by go_num, by rw [HT.out]; unfold tone; rw [HW.out]; simp, hx⟩
            case measure => simp [intOf]; omega
        · have hi1 : 0 < i := by omega
          have hia : 0 < (i : Int) := by omega
          have HI0 := Lib.hid hi0
          clear hi0
          by_cases hp1 : p = 1
          · have HW := Lib.hid (HW1.out hp1)
            subst hp1
            go_wp2_with fail
            clear hap
            go_roundw
            case rel => exact ⟨i + 1, by omega, by go_num, by rw [HT.out]; unfold tone; rw [HW.out]; simp [HI0.out], hx⟩
            case measure => simp [intOf]; omega
          · have HW := Lib.hid (HW2.out hp1)
            have hpb : (p == 1) = false := by simpa using hp1
            clear hp1
            go_wp2_with fail
            clear hap
            go_roundw
            case rel => exact ⟨i + 1, by omega, by go_num, by rw [HT.out]; unfold tone; rw [HW.out]; simp [HI0.out], hx⟩
            case measure => simp [intOf]; omega
      · have hil : i = l.length := by omega
        subst hil
        rw [List.take_length]
        go_wp2_with fail
        go_ret
        exact ⟨rfl, hx⟩
set_option maxHeartbeats 4000000 in
theorem refPrint_any (v : Value) (l : List Grp) (w : World) (hv : Gs w v l) :
    Calls Try.prog 10 #[v] w fun e w' => e = .returned (.tuple #[strV (pprint l).1, .int .i64 ((pprint l).2 : Int)]) ∧ Ext w w' := by
  have hV := hv
  obtain ⟨A, c, rfl, h1, h2, h3, h4⟩ := hv.at_
  have HG := Lib.hid (fun w hw => refGood_any (.slice A l.length c) l w hw)
  obtain ⟨e, hpe⟩ : ∃ e, pgood l = e := ⟨_, rfl⟩
  rw [hpe] at HG
  by_cases he0 : e = 0
  · subst he0
    have HF := Lib.hid (show pprint l = (ptext l, 0) by unfold pprint; rw [if_neg (by simp [hpe])])
    have HP := Lib.hid hpe
    clear hpe h4
    go_enter Try.func10, Try.ntmps10
    go_wp2_with fail
    refine (HG.out _ hV).mono ?_
    rintro e w1 ⟨rfl, x1⟩
    clear HG
    go_wp2_with fail
    refine (refText_any _ l _ (hV.ext x1) HP.out).mono ?_
    rintro e w2 ⟨rfl, x2⟩
    go_wp2_with fail
    go_ret2
    exact ⟨by rw [HF.out]; rfl, Ext.trans x1 x2⟩
  · have HF := Lib.hid (show pprint l = ([], e) by subst hpe; unfold pprint; rw [if_pos he0])
    have he1 : ((e : Int) != 0) = true := by rw [bne_iff_ne]; omega
    clear hpe he0
    go_enter Try.func10, Try.ntmps10
    go_wp2_with fail
    refine (HG.out _ hV).mono ?_
    rintro e w1 ⟨rfl, x1⟩
    clear HG
    go_wp2_with fail
    go_ret2
    exact ⟨by rw [HF.out]; rfl, x1⟩
end Go.Proofs.Ytjamopclfpmgjaa
