/-
  The walk of ChangeOrder.
-/
import Derived.Test.YtocdifjdeifclaaChangeCanonWalk
import Derived.Test.YtocdifjdeifclaaMonoDet
namespace Go.Proofs.Ytocdifjdeifclaa
open Go Go.RowKit Mono Num Go.Sort
set_option linter.unusedVariables false
set_option linter.unusedSimpArgs false
set_option maxRecDepth 100000

theorem isW4_out {w0 : World} {g i : Nat} {x : Wr} {a b c d : Value} (h : isW4 w0 g ((i + 1) * 4) x) : isW4 (w0.setCells g (i * 4) [a, b, c, d]) g ((i + 1) * 4) x := by
  unfold isW4 at *
  refine ⟨?_, ?_, ?_, ?_⟩
  · rw [World.cell?_setCells_out _ _ _ _ _ (fun _ _ => .inr (by simp; omega))]; exact h.1
  · rw [World.cell?_setCells_out _ _ _ _ _ (fun _ _ => .inr (by simp; omega))]; exact h.2.1
  · rw [World.cell?_setCells_out _ _ _ _ _ (fun _ _ => .inr (by simp; omega))]; exact h.2.2.1
  · rw [World.cell?_setCells_out _ _ _ _ _ (fun _ _ => .inr (by simp; omega))]; exact h.2.2.2
theorem swap_split {ws : List Wr} {i : Nat} {a b : Wr} (ha : ws[i]? = some a) (hb : ws[i + 1]? = some b) :
    ws = ws.take i ++ a :: b :: ws.drop (i + 2) ∧ (Go.Sort.swp ws.toArray i (i + 1)).toList = ws.take i ++ b :: a :: ws.drop (i + 2) := by
  have h1 : i + 1 < ws.length := (List.getElem?_eq_some_iff.1 hb).1
  have e1 : ws = ws.take i ++ a :: b :: ws.drop (i + 2) := by
    conv => lhs; rw [← List.take_append_drop i ws]
    rw [List.drop_eq_getElem_cons (by omega : i < ws.length), (List.getElem?_eq_some_iff.1 ha).2, List.drop_eq_getElem_cons h1, (List.getElem?_eq_some_iff.1 hb).2]
  refine ⟨e1, ?_⟩
  refine List.ext_getElem? fun j => ?_
  have hl : (ws.take i).length = i := by rw [List.length_take]; omega
  have hsz : (Go.Sort.swp ws.toArray i (i + 1)).size = ws.length := by simp [Go.Sort.size_swp]
  have hget : ∀ j, j < ws.length → (Go.Sort.swp ws.toArray i (i + 1)).toList[j]? = some (if j = i + 1 then a else if j = i then b else ws[j]!) := fun j hj => by
    have := Go.Sort.swp_get (d := ws.toArray) (i := i) (j := i + 1) (by simpa using Nat.lt_of_succ_lt h1) (by simpa using h1) j
    rw [Array.getElem?_toList, Array.getElem?_eq_getElem (by rw [hsz]; exact hj), ← getElem!_pos (Go.Sort.swp ws.toArray i (i + 1)) j (by rw [hsz]; exact hj), this]
    have ea : ws.toArray[i]! = a := by rw [getElem!_pos ws.toArray i (by simpa using Nat.lt_of_succ_lt h1)]; simpa using (List.getElem?_eq_some_iff.1 ha).2
    have eb : ws.toArray[i + 1]! = b := by rw [getElem!_pos ws.toArray (i + 1) (by simpa using h1)]; simpa using (List.getElem?_eq_some_iff.1 hb).2
    rw [ea, eb]
    congr 1
    split
    · rfl
    · split
      · rfl
      · rw [getElem!_pos ws.toArray j (by simpa using hj), getElem!_pos ws j hj]; simp
  by_cases hj : j < ws.length
  · rw [hget j hj]
    by_cases h2 : j < i
    · rw [List.getElem?_append_left (by omega), List.getElem?_take, if_pos h2, if_neg (by omega), if_neg (by omega), getElem!_pos ws j hj, List.getElem?_eq_getElem hj]
    · rw [List.getElem?_append_right (by omega), hl]
      by_cases h3 : j = i
      · subst h3
        simp
      · by_cases h4 : j = i + 1
        · subst h4
          simp
        · obtain ⟨u, rfl⟩ : ∃ u, j = i + 2 + u := ⟨j - (i + 2), by omega⟩
          rw [show i + 2 + u - i = u + 1 + 1 by omega, List.getElem?_cons_succ, List.getElem?_cons_succ, List.getElem?_drop, if_neg (by omega), if_neg (by omega), getElem!_pos ws _ hj, List.getElem?_eq_getElem hj]
  · have h5 : (ws.take i ++ b :: a :: ws.drop (i + 2)).length = ws.length := by
      have := congrArg List.length e1
      simp only [List.length_append, List.length_cons] at this ⊢
      omega
    rw [List.getElem?_eq_none (by rw [Array.length_toList, hsz]; omega), List.getElem?_eq_none (by rw [h5]; omega)]

set_option maxHeartbeats 8000000 in
theorem changeOrder_walk (v : Value) (ws : List Wr) (y : Int) (w : World) (h : Ws w v ws) :
    Calls Try.prog 8 #[v, .int .i64 y] w fun e w' => e = .returned (.bool true) ∧ Ext w w' := by
  have HL := Lib.hid (fun w => lives_any w)
  obtain ⟨i0, hi0, hz0, hz1, hz2⟩ := info_parts infoWrK
  have HI0 := Lib.hid hi0
  have HZ0 := Lib.hid hz0
  have HZ1 := Lib.hid hz1
  have HZ2 := Lib.hid hz2
  obtain ⟨A, c, rfl⟩ := ws_slice h
  have HWS := Lib.hid h
  have hlen : (ws.length : Int) ≤ 9223372036854775807 := by
    obtain ⟨⟨A, c, hv, h1, h2, _⟩, _⟩ := h
    unfold maxLen at h2
    omega
  have HLT := Lib.hid (lightC_any (.slice none 0 0) [] (.slice A ws.length c) ws w (Gs.nil_ w) h)
  clear h hi0 hz0 hz1 hz2
  go_enter Try.func8, Try.ntmps8
  go_wp2_with fail
  refine HLT.out.mono ?_
  rintro e w1 ⟨⟨q, rfl, hq⟩, hx1⟩
  have HX1 := Lib.hid hx1
  clear HLT hx1
  by_cases hgo : q = false ∨ ws.length < 2
  · have hlv : Hid (∀ w, Calls Try.prog 10 #[] w fun e w' => e = .returned (.bool true) ∧ Ext w w') := HL
    rcases hgo with rfl | hgo
    · clear hq
      go_wp2_with fail
      refine (HL.out w1).mono ?_
      rintro e w2 ⟨rfl, hx2⟩
      go_wp2_with fail
      go_ret
      exact ⟨rfl, HX1.out.trans hx2⟩
    · cases q
      · clear hq
        go_wp2_with fail
        refine (HL.out w1).mono ?_
        rintro e w2 ⟨rfl, hx2⟩
        go_wp2_with fail
        go_ret
        exact ⟨rfl, HX1.out.trans hx2⟩
      · clear hq
        go_wp2_with fail
        refine (HL.out w1).mono ?_
        rintro e w2 ⟨rfl, hx2⟩
        go_wp2_with fail
        go_ret
        exact ⟨rfl, HX1.out.trans hx2⟩
  obtain rfl : q = true := by cases q <;> simp_all
  have hle := hq rfl
  have h2l : 2 ≤ ws.length := by omega
  clear hq hgo
  have HE := Lib.hid (empty_row (sz := 4) (e := 31) (w := w1) (Nat.le_refl _))
  have HF := Lib.hid ((fl_of_ws (HWS.out.ext HX1.out)).ext (ext_alloc w1 (.cells #[] 31)))
  have hln := wrsC_len ws
  have h1c := wrsC_one ws
  go_upto_region 4 with (at_builtin; refine wpList_append_fl rfl (.tmp 16) (.tmp 17) 27 rfl w1.heap.size 31 i0 _ 4 48 Try.underlying27 HI0.out HZ0.out HZ1.out HZ2.out rfl (by decide) HE.out HF.out hln rfl rfl h1c (by unfold maxLen; omega) (by omega) (by simp) ?_; intro v' w3 hown' hg hat; obtain ⟨A9, c9, rfl⟩ := row_sliceK hown'; clear hat; have HOw := Lib.hid hown'; have HG := Lib.hid hg; clear hown' hg)
  have HX3 := Lib.hid (HX1.out.trans (Below.grown (ext_alloc w1 (.cells #[] 31)) HG.out (by simp) (fun k hk => (World.ownsRow.lt HE.out k hk).1)))
  have HOW : Hid (w3.ownsRow w1.heap.size 31 4 (.slice A9 ws.length c9) ws.length (wrsC ws)) := Lib.hid (by
    have h1 := HOw.out
    rwa [Nat.zero_add, List.nil_append] at h1)
  clear hln h1c HE HF HG HOw
  try simp only [Nat.zero_add]
  obtain ⟨g, rfl, hgl, hgc, hgm, hg1⟩ : ∃ g, A9 = some ⟨g, 0, none⟩ ∧ g < w3.heap.size ∧ ws.length ≤ c9 ∧ c9 ≤ maxLen ∧ w1.heap.size ≤ g := by
    rcases HOW.out.2 with ⟨_, hn⟩ | ⟨g, cap, cur, hv, hb, hgb, hnc, hcm, _⟩
    · omega
    · injection hv with e1 _ e2
      subst e1 e2
      exact ⟨g, rfl, (Array.getElem?_eq_some_iff.1 hgb).1, hnc, hcm, hb⟩
  have HGL := Lib.hid hgl
  have HGC := Lib.hid hgc
  have HGM := Lib.hid hgm
  have HG1 := Lib.hid (Nat.le_trans HX1.out.size hg1)
  have HR3 := Lib.hid (hr_of_row HOW.out rfl)
  have HZ := Lib.hid (fun o => World.ownsRow.frozenAt HOW.out o)
  clear hgl hgc hgm hg1
  obtain ⟨M, hM⟩ : ∃ M, ws.length = M + 2 := ⟨ws.length - 2, by omega⟩
  obtain ⟨i, hi, hie⟩ := place_int y M (by omega)
  have HIE := Lib.hid hie
  have HIM := Lib.hid hi
  have HM := Lib.hid hM
  have hu1 : IntKind.u64.wrap ((ws.length : Int) - 1) = (M : Int) + 1 := by rw [IntKind.wrap_u64]; omega
  clear hi hM
  go_upto_region 5 with (fail)
  rw [HIE.out]
  clear hie hu1
  obtain ⟨⟨ka, ga, da, za⟩, hga⟩ : ∃ x, ws[i]? = some x := ⟨_, List.getElem?_eq_getElem (by have := HIM.out; have := HM.out; omega)⟩
  obtain ⟨⟨kb, gb, db, zb⟩, hgb⟩ : ∃ x, ws[i + 1]? = some x := ⟨_, List.getElem?_eq_getElem (by have := HIM.out; have := HM.out; omega)⟩
  have hi1 : i + 1 < ws.length := by have := HIM.out; have := HM.out; omega
  have HGA := Lib.hid hga
  have HGB := Lib.hid hgb
  have HCW : ∀ j x, ws[j]? = some x → isW4 w3 g (j * 4) x := fun j x hx => by
    have hj : j < ws.toArray.size := by simpa using (List.getElem?_eq_some_iff.1 hx).1
    have e : ws.toArray[j]! = x := by rw [getElem!_pos ws.toArray j hj]; simpa using (List.getElem?_eq_some_iff.1 hx).2
    have c0 := (HR3.out.cell hj (c := 0) (by omega)).1
    have c1 := (HR3.out.cell hj (c := 1) (by omega)).1
    have c2 := (HR3.out.cell hj (c := 2) (by omega)).1
    have c3 := (HR3.out.cell hj (c := 3) (by omega)).1
    rw [e, Nat.zero_add] at c0 c1 c2 c3
    exact ⟨c0, c1, c2, c3⟩
  have HA : Hid (isW4 w3 g (i * 4) ⟨ka, ga, da, za⟩) := Lib.hid (HCW i _ hga)
  have HB : Hid (isW4 w3 g ((i + 1) * 4) ⟨kb, gb, db, zb⟩) := Lib.hid (HCW (i + 1) _ hgb)
  clear HCW hga hgb
  obtain ⟨L, hL⟩ : ∃ n, n = ws.length := ⟨_, rfl⟩
  have HLL := Lib.hid hL
  rw [← hL] at h2l hle hi1 hlen HOW HGC HWS ⊢
  clear hL
  obtain ⟨q, hq⟩ : ∃ q : Bool, (ka == kb) = q := ⟨_, rfl⟩
  obtain ⟨q2, hq2⟩ : ∃ q : Bool, (ga == gb) = q := ⟨_, rfl⟩
  have HQ := Lib.hid hq
  have HQ2 := Lib.hid hq2
  clear hq hq2
  have HAA := HA
  have HBB := HB
  unfold isW4 at HA HB
  dsimp only at HA HB
  cases q
  · refine wp_region_mono (by kernel_rfl) (by kernel_rfl) ?_
    refine tele_move rfl (.inl rfl) rfl (isV (.slice (some ⟨g, 0, none⟩) L c9)) (fun ρ w' h => h) ?_
    refine tele_move rfl (.inl rfl) rfl (isV (.int .i64 (i : Int))) (fun ρ w' h => h) ?_
    refine tele_val rfl (.pointer (some ⟨g, 0 + i * 4, none⟩)) (fun _ _ _ => rfl) ?_ ?_
    · rintro ρ w' he ⟨h27, h28, -⟩
      have e27 : ρ 27 = (.slice (some ⟨g, 0, none⟩) L c9) := h27
      have e28 : ρ 28 = (.int .i64 (i : Int)) := h28
      exact index_at (w := w') 4 rfl Try.underlying27 e27 e28 (by omega) (by kernel_rfl)
    refine tele_val rfl (.pointer (some ⟨g, i * 4, none⟩)) (fun _ _ _ => rfl) ?_ ?_
    · rintro ρ w' he ⟨h29, -⟩
      have e29 : ρ 29 = (.pointer (some ⟨g, 0 + i * 4, none⟩)) := h29
      simp [execOp, evR, e29, go_sem]
    refine tele_val rfl (strV ka) (fun _ _ _ => rfl) ?_ ?_
    · rintro ρ w' he ⟨h30, -⟩
      have e30 : ρ 30 = (.pointer (some ⟨g, i * 4, none⟩)) := h30
      have c := (he.cell (p := ⟨g, i * 4, none⟩) HGL.out).trans HA.out.1
      simp [execOp, evR, e30, c, go_sem]
    refine tele_move rfl (.inl rfl) rfl (isV (.slice (some ⟨g, 0, none⟩) L c9)) (fun ρ w' h => h) ?_
    refine tele_move rfl (.inl rfl) rfl (isV (.int .i64 (i : Int))) (fun ρ w' h => h) ?_
    refine tele_val rfl (.int .i64 ((i + 1 : Nat) : Int)) (fun _ _ _ => rfl) ?_ ?_
    · rintro ρ w' he ⟨h33, -⟩
      have e33 : ρ 33 = (.int .i64 (i : Int)) := h33
      have hw1 : IntKind.i64.wrap ((i : Int) + 1) = ((i + 1 : Nat) : Int) := by rw [IntWalk.i64_in _ (by omega)]; omega
      simp [execOp, evR, e33, hw1, go_sem]
    refine tele_val rfl (.pointer (some ⟨g, 0 + (i + 1) * 4, none⟩)) (fun _ _ _ => rfl) ?_ ?_
    · rintro ρ w' he ⟨h32, h34, -⟩
      have e32 : ρ 32 = (.slice (some ⟨g, 0, none⟩) L c9) := h32
      have e34 : ρ 34 = (.int .i64 ((i + 1 : Nat) : Int)) := h34
      exact index_at (w := w') 4 rfl Try.underlying27 e32 e34 (by omega) (by kernel_rfl)
    refine tele_val rfl (.pointer (some ⟨g, (i + 1) * 4, none⟩)) (fun _ _ _ => rfl) ?_ ?_
    · rintro ρ w' he ⟨h35, -⟩
      have e35 : ρ 35 = (.pointer (some ⟨g, 0 + (i + 1) * 4, none⟩)) := h35
      simp [execOp, evR, e35, go_sem]
    refine tele_val rfl (strV kb) (fun _ _ _ => rfl) ?_ ?_
    · rintro ρ w' he ⟨h36, -⟩
      have e36 : ρ 36 = (.pointer (some ⟨g, (i + 1) * 4, none⟩)) := h36
      have c := (he.cell (p := ⟨g, (i + 1) * 4, none⟩) HGL.out).trans HB.out.1
      simp [execOp, evR, e36, c, go_sem]
    refine tele_val rfl (.bool false) (fun _ _ _ => rfl) ?_ ?_
    · rintro ρ w' he ⟨h31, h37, -⟩
      have e31 : ρ 31 = (strV ka) := h31
      have e37 : ρ 37 = (strV kb) := h37
      exact (exec_eql_str rfl e31 e37).trans (by rw [HQ.out])
    refine tele_move rfl (.inl rfl) rfl (isV (.bool false)) (fun ρ w' h => h) ?_
    refine tele_pass rfl (fun ρ w' hk => by obtain ⟨_, hg, -⟩ := hk; have eg : ρ 39 = (.bool false) := hg; simp [wantedR, Region.wanted, asBoolR, eg]) ?_
    refine tele_pass rfl (fun ρ w' hk => by obtain ⟨_, hg, -⟩ := hk; have eg : ρ 39 = (.bool false) := hg; simp [wantedR, Region.wanted, asBoolR, eg]) ?_
    refine tele_pass rfl (fun ρ w' hk => by obtain ⟨_, _, hg, -⟩ := hk; have eg : ρ 39 = (.bool false) := hg; simp [wantedR, Region.wanted, asBoolR, eg]) ?_
    refine tele_pass rfl (fun ρ w' hk => by obtain ⟨_, hg, -⟩ := hk; have eg : ρ 39 = (.bool false) := hg; simp [wantedR, Region.wanted, asBoolR, eg]) ?_
    refine tele_pass rfl (fun ρ w' hk => by obtain ⟨_, hg, -⟩ := hk; have eg : ρ 39 = (.bool false) := hg; simp [wantedR, Region.wanted, asBoolR, eg]) ?_
    refine tele_pass rfl (fun ρ w' hk => by obtain ⟨_, hg, -⟩ := hk; have eg : ρ 39 = (.bool false) := hg; simp [wantedR, Region.wanted, asBoolR, eg]) ?_
    refine tele_pass rfl (fun ρ w' hk => by obtain ⟨_, hg, -⟩ := hk; have eg : ρ 39 = (.bool false) := hg; simp [wantedR, Region.wanted, asBoolR, eg]) ?_
    refine tele_pass rfl (fun ρ w' hk => by obtain ⟨_, hg, -⟩ := hk; have eg : ρ 39 = (.bool false) := hg; simp [wantedR, Region.wanted, asBoolR, eg]) ?_
    refine tele_pass rfl (fun ρ w' hk => by obtain ⟨_, _, hg, -⟩ := hk; have eg : ρ 39 = (.bool false) := hg; simp [wantedR, Region.wanted, asBoolR, eg]) ?_
    refine tele_pass rfl (fun ρ w' hk => by obtain ⟨_, hg, -⟩ := hk; have eg : ρ 39 = (.bool false) := hg; simp [wantedR, Region.wanted, asBoolR, eg]) ?_
    refine tele_pass rfl (fun ρ w' hk => by obtain ⟨_, hg, -⟩ := hk; have eg : ρ 39 = (.bool false) := hg; simp [wantedR, Region.wanted, asBoolR, eg]) ?_
    refine tele_pass rfl (fun ρ w' hk => by obtain ⟨_, _, hg, -⟩ := hk; have eg : ρ 39 = (.bool false) := hg; simp [wantedR, Region.wanted, asBoolR, eg]) ?_
    refine tele_val rfl (.bool false) (fun _ _ _ => rfl) ?_ ?_
    · rintro ρ w' he ⟨h39, h51, -⟩
      have e39 : ρ 39 = (.bool false) := h39
      have e51 : ρ 51 = undef := h51
      simp [execOp, evR, e39, e51, go_sem]
    refine tele_nil ?_
    rintro ρ w' hext ⟨f52, f51, f50, f49, f48, f47, f46, f45, f44, f43, f42, f41, f40, f39, f38, f37, f36, f35, f34, f33, f32, f31, f30, f29, f28, f27, -⟩
    replace f27 : ρ 27 = (.slice (some ⟨g, 0, none⟩) L c9) := f27
    replace f28 : ρ 28 = (.int .i64 (i : Int)) := f28
    replace f29 : ρ 29 = (.pointer (some ⟨g, 0 + i * 4, none⟩)) := f29
    replace f30 : ρ 30 = (.pointer (some ⟨g, i * 4, none⟩)) := f30
    replace f31 : ρ 31 = (strV ka) := f31
    replace f32 : ρ 32 = (.slice (some ⟨g, 0, none⟩) L c9) := f32
    replace f33 : ρ 33 = (.int .i64 (i : Int)) := f33
    replace f34 : ρ 34 = (.int .i64 ((i + 1 : Nat) : Int)) := f34
    replace f35 : ρ 35 = (.pointer (some ⟨g, 0 + (i + 1) * 4, none⟩)) := f35
    replace f36 : ρ 36 = (.pointer (some ⟨g, (i + 1) * 4, none⟩)) := f36
    replace f37 : ρ 37 = (strV kb) := f37
    replace f38 : ρ 38 = (.bool false) := f38
    replace f39 : ρ 39 = (.bool false) := f39
    replace f40 : ρ 40 = undef := f40
    replace f41 : ρ 41 = undef := f41
    replace f42 : ρ 42 = undef := f42
    replace f43 : ρ 43 = undef := f43
    replace f44 : ρ 44 = undef := f44
    replace f45 : ρ 45 = undef := f45
    replace f46 : ρ 46 = undef := f46
    replace f47 : ρ 47 = undef := f47
    replace f48 : ρ 48 = undef := f48
    replace f49 : ρ 49 = undef := f49
    replace f50 : ρ 50 = undef := f50
    replace f51 : ρ 51 = undef := f51
    replace f52 : ρ 52 = (.bool false) := f52
    simp only [puts, Act.put, List.setIfInBounds_toArray, List.set_cons_zero, List.set_cons_succ]
    rw [f52]
    clear f27
    clear f28
    clear f29
    clear f30
    clear f31
    clear f32
    clear f33
    clear f34
    clear f35
    clear f36
    clear f37
    clear f38
    clear f39
    clear f40
    clear f41
    clear f42
    clear f43
    clear f44
    clear f45
    clear f46
    clear f47
    clear f48
    clear f49
    clear f50
    clear f51
    clear f52
    have HNS : Hid (samePl ⟨ka, ga, da, za⟩ ⟨kb, gb, db, zb⟩ = false) := Lib.hid (by unfold samePl; dsimp only; rw [HQ.out]; rfl)
    clear HQ HQ2
    have HX4 := Lib.hid (HX3.out.trans hext)
    have HR4 : Hid (HR g 0 w' ws.toArray) := Lib.hid (HR3.out.ext hext HGL.out)
    have HZ4 : Hid (∀ o, w'.frozen? ⟨g, o, none⟩ = false) := Lib.hid fun o => (World.frozen?_of_block (hext.block g HGL.out)).trans (HZ.out o)
    have HA4 := Lib.hid (isW4.ext HAA.out HGL.out hext)
    have HB4 := Lib.hid (isW4.ext HBB.out HGL.out hext)
    have HGL4 := Lib.hid (Nat.lt_of_lt_of_le HGL.out hext.size)
    clear HA HB HAA HBB HX3 HR3 HZ HGL hext HOW
    have HX3 := HX4
    have HR3 := HR4
    have HZ := HZ4
    have HA := HA4
    have HB := HB4
    have HGL := HGL4
    clear HX4 HR4 HZ4 HA4 HB4 HGL4
    generalize w' = w3 at *
    go_upto_region 7 with (fail)
    refine wp_region_turns 2 [(0, 0, false), (0, 0, false), (0, 1, false), (0, 1, false), (0, 1, false), (0, 0, false), (0, 0, false), (0, 0, false), (0, 0, false), (0, 0, false), (0, 1, false), (0, 1, false), (0, 1, false), (0, 0, false), (0, 0, false), (0, 0, true), (1, 1, false), (1, 1, true)] (fun w0 c => match c with | 0 => w0 | 1 => w0.setCells g (i * 4) [strV kb, .int .i64 gb, .bool db, strV zb] | _ => (w0.setCells g (i * 4) [strV kb, .int .i64 gb, .bool db, strV zb]).setCells g ((i + 1) * 4) [strV ka, .int .i64 ga, .bool da, strV za]) (by kernel_rfl) (by kernel_rfl) (by kernel_rfl) (fun _ => rfl) ?_
    intro w0 wz hext hsz hwz
    have q0 : wz 0 = w0 := hwz 0
    have q1 : wz 1 = w0.setCells g (i * 4) [strV kb, .int .i64 gb, .bool db, strV zb] := hwz 1
    have q2 : wz 2 = (w0.setCells g (i * 4) [strV kb, .int .i64 gb, .bool db, strV zb]).setCells g ((i + 1) * 4) [strV ka, .int .i64 ga, .bool da, strV za] := hwz 2
    clear hwz
    have HA0 := isW4.ext HA.out HGL.out hext
    have HB0 := isW4.ext HB.out HGL.out hext
    have z0 : ∀ o, w0.frozen? ⟨g, o, none⟩ = false := fun o => (World.frozen?_of_block (hext.block g HGL.out)).trans (HZ.out o)
    unfold isW4 at HA0 HB0
    dsimp only at HA0 HB0
    refine detT_pure rfl (.slice (some ⟨g, 0, none⟩) L c9) (fun _ _ => rfl) ?_ ?_
    · rintro ρ ⟨h5, -⟩ w'
      have e5 : ρ 5 = .slice (some ⟨g, 0, none⟩) L c9 := h5
      simp [execOp, evR, e5, go_sem]
    refine detT_pure rfl (.int .i64 (i : Int)) (fun _ _ => rfl) ?_ ?_
    · rintro ρ ⟨h6, -⟩ w'
      have e6 : ρ 6 = .int .i64 (i : Int) := h6
      simp [execOp, evR, e6, go_sem]
    refine detT_pure rfl (.slice (some ⟨g, 0, none⟩) L c9) (fun _ _ => rfl) ?_ ?_
    · rintro ρ ⟨h5, -⟩ w'
      have e5 : ρ 5 = .slice (some ⟨g, 0, none⟩) L c9 := h5
      simp [execOp, evR, e5, go_sem]
    refine detT_pure rfl (.int .i64 (i : Int)) (fun _ _ => rfl) ?_ ?_
    · rintro ρ ⟨h6, -⟩ w'
      have e6 : ρ 6 = .int .i64 (i : Int) := h6
      simp [execOp, evR, e6, go_sem]
    refine detT_pure rfl (.int .i64 ((i + 1 : Nat) : Int)) (fun _ _ => rfl) ?_ ?_
    · rintro ρ ⟨h57, -⟩ w'
      have e57 : ρ 57 = .int .i64 (i : Int) := h57
      have hw1 : IntKind.i64.wrap ((i : Int) + 1) = ((i + 1 : Nat) : Int) := by rw [IntWalk.i64_in _ (by omega)]; omega
      simp [execOp, evR, e57, hw1, go_sem]
    refine detT_pure rfl (.slice (some ⟨g, 0, none⟩) L c9) (fun _ _ => rfl) ?_ ?_
    · rintro ρ ⟨h5, -⟩ w'
      have e5 : ρ 5 = .slice (some ⟨g, 0, none⟩) L c9 := h5
      simp [execOp, evR, e5, go_sem]
    refine detT_pure rfl (.int .i64 (i : Int)) (fun _ _ => rfl) ?_ ?_
    · rintro ρ ⟨h6, -⟩ w'
      have e6 : ρ 6 = .int .i64 (i : Int) := h6
      simp [execOp, evR, e6, go_sem]
    refine detT_pure rfl (.int .i64 ((i + 1 : Nat) : Int)) (fun _ _ => rfl) ?_ ?_
    · rintro ρ ⟨h60, -⟩ w'
      have e60 : ρ 60 = .int .i64 (i : Int) := h60
      have hw1 : IntKind.i64.wrap ((i : Int) + 1) = ((i + 1 : Nat) : Int) := by rw [IntWalk.i64_in _ (by omega)]; omega
      simp [execOp, evR, e60, hw1, go_sem]
    refine detT_pure rfl (.pointer (some ⟨g, 0 + (i + 1) * 4, none⟩)) (fun _ _ => rfl) ?_ ?_
    · rintro ρ ⟨h59, h61, -⟩ w'
      have e59 : ρ 59 = .slice (some ⟨g, 0, none⟩) L c9 := h59
      have e61 : ρ 61 = .int .i64 ((i + 1 : Nat) : Int) := h61
      exact index_at (w := w') 4 rfl Try.underlying27 e59 e61 (by omega) (by kernel_rfl)
    refine detT_read rfl (.agg #[strV kb, .int .i64 gb, .bool db, strV zb]) (fun _ _ => rfl) ?_ ?_
    · rintro ρ ⟨h62, -⟩ c hc1 hc2
      have e62 : ρ 62 = .pointer (some ⟨g, 0 + (i + 1) * 4, none⟩) := h62
      have hc : c = 0 := by have h1 : 0 ≤ c := hc1; have h2 : c ≤ 0 := hc2; omega
      rcases hc with rfl
      · rw [q0]
        have c0 := (hext.cell (p := ⟨g, (i + 1) * 4, none⟩) HGL.out).trans HB.out.1
        have c1 := (hext.cell (p := ⟨g, (i + 1) * 4 + 1, none⟩) HGL.out).trans HB.out.2.1
        have c2 := (hext.cell (p := ⟨g, (i + 1) * 4 + 2, none⟩) HGL.out).trans HB.out.2.2.1
        have c3 := (hext.cell (p := ⟨g, (i + 1) * 4 + 3, none⟩) HGL.out).trans HB.out.2.2.2
        simp [execOp, evR, e62, c0, c1, c2, c3, go_sem]
    refine detT_pure rfl (.slice (some ⟨g, 0, none⟩) L c9) (fun _ _ => rfl) ?_ ?_
    · rintro ρ ⟨h5, -⟩ w'
      have e5 : ρ 5 = .slice (some ⟨g, 0, none⟩) L c9 := h5
      simp [execOp, evR, e5, go_sem]
    refine detT_pure rfl (.int .i64 (i : Int)) (fun _ _ => rfl) ?_ ?_
    · rintro ρ ⟨h6, -⟩ w'
      have e6 : ρ 6 = .int .i64 (i : Int) := h6
      simp [execOp, evR, e6, go_sem]
    refine detT_pure rfl (.pointer (some ⟨g, 0 + i * 4, none⟩)) (fun _ _ => rfl) ?_ ?_
    · rintro ρ ⟨h64, h65, -⟩ w'
      have e64 : ρ 64 = .slice (some ⟨g, 0, none⟩) L c9 := h64
      have e65 : ρ 65 = .int .i64 (i : Int) := h65
      exact index_at (w := w') 4 rfl Try.underlying27 e64 e65 (by omega) (by kernel_rfl)
    refine detT_read rfl (.agg #[strV ka, .int .i64 ga, .bool da, strV za]) (fun _ _ => rfl) ?_ ?_
    · rintro ρ ⟨h66, -⟩ c hc1 hc2
      have e66 : ρ 66 = .pointer (some ⟨g, 0 + i * 4, none⟩) := h66
      have hc : c = 0 := by have h1 : 0 ≤ c := hc1; have h2 : c ≤ 0 := hc2; omega
      rcases hc with rfl
      · rw [q0]
        have c0 := (hext.cell (p := ⟨g, i * 4, none⟩) HGL.out).trans HA.out.1
        have c1 := (hext.cell (p := ⟨g, i * 4 + 1, none⟩) HGL.out).trans HA.out.2.1
        have c2 := (hext.cell (p := ⟨g, i * 4 + 2, none⟩) HGL.out).trans HA.out.2.2.1
        have c3 := (hext.cell (p := ⟨g, i * 4 + 3, none⟩) HGL.out).trans HA.out.2.2.2
        simp [execOp, evR, e66, c0, c1, c2, c3, go_sem]
    refine detT_pure rfl (.pointer (some ⟨g, 0 + i * 4, none⟩)) (fun _ _ => rfl) ?_ ?_
    · rintro ρ ⟨h54, h55, -⟩ w'
      have e54 : ρ 54 = .slice (some ⟨g, 0, none⟩) L c9 := h54
      have e55 : ρ 55 = .int .i64 (i : Int) := h55
      exact index_at (w := w') 4 rfl Try.underlying27 e54 e55 (by omega) (by kernel_rfl)
    refine detT_store rfl (fun _ _ => rfl) ?_ ?_
    · rintro ρ ⟨h68, h63, -⟩
      have e68 : ρ 68 = .pointer (some ⟨g, 0 + i * 4, none⟩) := h68
      have e63 : ρ 63 = .agg #[strV kb, .int .i64 gb, .bool db, strV zb] := h63
      show (execOp (evR ρ) _).run Try.prog (wz 0) = .ok .skip (wz 1)
      rw [q0, q1]
      obtain ⟨c0, c1, c2, c3⟩ := HA0
      have t0 := z0 (i * 4)
      have t1 := z0 (i * 4 + 1)
      have t2 := z0 (i * 4 + 2)
      have t3 := z0 (i * 4 + 3)
      unfold strV at *
      simp [execOp, evR, e68, e63, c0, c1, c2, c3, t0, t1, t2, t3, World.setCells, Nat.add_assoc, go_sem]
    refine detT_pure rfl (.pointer (some ⟨g, 0 + (i + 1) * 4, none⟩)) (fun _ _ => rfl) ?_ ?_
    · rintro ρ ⟨h56, h58, -⟩ w'
      have e56 : ρ 56 = .slice (some ⟨g, 0, none⟩) L c9 := h56
      have e58 : ρ 58 = .int .i64 ((i + 1 : Nat) : Int) := h58
      exact index_at (w := w') 4 rfl Try.underlying27 e56 e58 (by omega) (by kernel_rfl)
    refine detT_store rfl (fun _ _ => rfl) ?_ ?_
    · rintro ρ ⟨h69, h67, -⟩
      have e69 : ρ 69 = .pointer (some ⟨g, 0 + (i + 1) * 4, none⟩) := h69
      have e67 : ρ 67 = .agg #[strV ka, .int .i64 ga, .bool da, strV za] := h67
      show (execOp (evR ρ) _).run Try.prog (wz 1) = .ok .skip (wz 2)
      rw [q1, q2]
      obtain ⟨c0, c1, c2, c3⟩ := HB0
      have t0 := z0 ((i + 1) * 4)
      have t1 := z0 ((i + 1) * 4 + 1)
      have t2 := z0 ((i + 1) * 4 + 2)
      have t3 := z0 ((i + 1) * 4 + 3)
      unfold strV at *
      simp [execOp, evR, e69, e67, c0, c1, c2, c3, t0, t1, t2, t3, World.setCells, Nat.add_assoc, go_sem]
    simp only [DetT, applyV, Act.put, List.setIfInBounds_toArray, List.set_cons_zero, List.set_cons_succ]
    rw [q2]
    have HK : Hid (Rb g w3 _) := Lib.hid ((Rb.of_ext hext).trans ((Rb.sets g [strV kb, .int .i64 gb, .bool db, strV zb] (i * 4) w0).trans (Rb.sets g [strV ka, .int .i64 ga, .bool da, strV za] ((i + 1) * 4) _)))
    have HW : Hid (Ws ((w0.setCells g (i * 4) [strV kb, .int .i64 gb, .bool db, strV zb]).setCells g ((i + 1) * 4) [strV ka, .int .i64 ga, .bool da, strV za]) (.slice (some ⟨g, 0, none⟩) L c9) (Go.Sort.swp ws.toArray i (i + 1)).toList) := Lib.hid (by
      have hr0 := HR3.out.ext hext HGL.out
      have hg0 := Nat.lt_of_lt_of_le HGL.out hext.size
      have hs : ws.toArray.size = L := by simpa using HLL.out.symm
      have ha : ws.toArray[i]! = ⟨ka, ga, da, za⟩ := by rw [getElem!_pos ws.toArray i (by rw [hs]; omega)]; simpa using (List.getElem?_eq_some_iff.1 HGA.out).2
      have hb : ws.toArray[i + 1]! = ⟨kb, gb, db, zb⟩ := by rw [getElem!_pos ws.toArray (i + 1) (by rw [hs]; omega)]; simpa using (List.getElem?_eq_some_iff.1 HGB.out).2
      have hk := ((SWK.start hr0).swap wrE_len hg0 i (i + 1) (by rw [hs]; omega) (by rw [hs]; omega)).holds hg0 hr0 (by rw [size_swp])
      rw [ha, hb, Nat.zero_add, Nat.zero_add] at hk
      refine ws_of_hr hk (by rw [size_swp, hs]) HGC.out HGM.out (Nat.lt_of_lt_of_le hg0 ((Rb.sets g _ _ _).trans (Rb.sets g _ _ _)).size) (fun x hx => ?_)
      obtain ⟨e1, e2⟩ := swap_split HGA.out HGB.out
      rw [e2] at hx
      refine HWS.out.2 x ?_
      rw [e1]
      simp only [List.mem_append, List.mem_cons] at hx ⊢
      rcases hx with hx | hx | hx | hx
      · exact .inl hx
      · exact .inr (.inr (.inl hx))
      · exact .inr (.inl hx)
      · exact .inr (.inr (.inr hx)))
    obtain ⟨W, hW⟩ : ∃ W, W = (w0.setCells g (i * 4) [strV kb, .int .i64 gb, .bool db, strV zb]).setCells g ((i + 1) * 4) [strV ka, .int .i64 ga, .bool da, strV za] := ⟨_, rfl⟩
    rw [← hW] at HK HW ⊢
    clear hW q0 q1 q2
    have HX5 := Lib.hid (HK.out.ext HX3.out HG1.out)
    have hml : (Go.Sort.swp ws.toArray i (i + 1)).toList.length = L := by rw [Array.length_toList, size_swp]; simpa using HLL.out.symm
    have HRC := Lib.hid (show rcanonF (Go.Sort.swp ws.toArray i (i + 1)).toList = rcanonF ws by
      obtain ⟨e1, e2⟩ := swap_split HGA.out HGB.out
      rw [e2]
      conv => rhs; rw [e1]
      exact (rcanon_swap _ _ _ _ HNS.out).symm)
    have HC1 := Lib.hid (canon_any (.slice A L c) ws W (HWS.out.ext HX5.out) (by rw [← HLL.out]; omega))
    generalize (Go.Sort.swp ws.toArray i (i + 1)).toList = ms at *
    clear HA HB HGA HGB HR3 HZ HGL HX3 HK
    go_wp2_with fail
    refine HC1.out.mono ?_
    rintro e w5 ⟨r, rfl, hr, hx5⟩
    obtain ⟨A4, c4, rfl⟩ := ws_slice hr
    have HC2 := Lib.hid (canon_any (.slice (some ⟨g, 0, none⟩) L c9) ms w5 (HW.out.ext hx5) (by rw [hml]; omega))
    rw [HRC.out] at HC2
    have HR := Lib.hid hr
    have HX6 := Lib.hid (HX5.out.trans hx5)
    clear HC1 hr hx5 hml
    go_wp2_with fail
    refine HC2.out.mono ?_
    rintro e w6 ⟨r6, rfl, hr6, hx6⟩
    obtain ⟨A6, c6, rfl⟩ := ws_slice hr6
    have HS := Lib.hid (wsSame_any (.slice A4 (rcanonF ws).length c4) (.slice A6 (rcanonF ws).length c6) (rcanonF ws) w6 (HR.out.ext hx6) hr6)
    have HX7 := Lib.hid (HX6.out.trans hx6)
    clear HC2 hr6 hx6 HR HX6
    go_wp2_with fail
    refine HS.out.mono ?_
    rintro e w7 ⟨rfl, hx7⟩
    go_wp2_with fail
    refine (HL.out _).mono ?_
    rintro e w8 ⟨rfl, hx8⟩
    go_wp2_with fail
    go_ret
    exact ⟨rfl, (HX7.out.trans hx7).trans hx8⟩
  · refine wp_region_mono (by kernel_rfl) (by kernel_rfl) ?_
    refine tele_move rfl (.inl rfl) rfl (isV (.slice (some ⟨g, 0, none⟩) L c9)) (fun ρ w' h => h) ?_
    refine tele_move rfl (.inl rfl) rfl (isV (.int .i64 (i : Int))) (fun ρ w' h => h) ?_
    refine tele_val rfl (.pointer (some ⟨g, 0 + i * 4, none⟩)) (fun _ _ _ => rfl) ?_ ?_
    · rintro ρ w' he ⟨h27, h28, -⟩
      have e27 : ρ 27 = (.slice (some ⟨g, 0, none⟩) L c9) := h27
      have e28 : ρ 28 = (.int .i64 (i : Int)) := h28
      exact index_at (w := w') 4 rfl Try.underlying27 e27 e28 (by omega) (by kernel_rfl)
    refine tele_val rfl (.pointer (some ⟨g, i * 4, none⟩)) (fun _ _ _ => rfl) ?_ ?_
    · rintro ρ w' he ⟨h29, -⟩
      have e29 : ρ 29 = (.pointer (some ⟨g, 0 + i * 4, none⟩)) := h29
      simp [execOp, evR, e29, go_sem]
    refine tele_val rfl (strV ka) (fun _ _ _ => rfl) ?_ ?_
    · rintro ρ w' he ⟨h30, -⟩
      have e30 : ρ 30 = (.pointer (some ⟨g, i * 4, none⟩)) := h30
      have c := (he.cell (p := ⟨g, i * 4, none⟩) HGL.out).trans HA.out.1
      simp [execOp, evR, e30, c, go_sem]
    refine tele_move rfl (.inl rfl) rfl (isV (.slice (some ⟨g, 0, none⟩) L c9)) (fun ρ w' h => h) ?_
    refine tele_move rfl (.inl rfl) rfl (isV (.int .i64 (i : Int))) (fun ρ w' h => h) ?_
    refine tele_val rfl (.int .i64 ((i + 1 : Nat) : Int)) (fun _ _ _ => rfl) ?_ ?_
    · rintro ρ w' he ⟨h33, -⟩
      have e33 : ρ 33 = (.int .i64 (i : Int)) := h33
      have hw1 : IntKind.i64.wrap ((i : Int) + 1) = ((i + 1 : Nat) : Int) := by rw [IntWalk.i64_in _ (by omega)]; omega
      simp [execOp, evR, e33, hw1, go_sem]
    refine tele_val rfl (.pointer (some ⟨g, 0 + (i + 1) * 4, none⟩)) (fun _ _ _ => rfl) ?_ ?_
    · rintro ρ w' he ⟨h32, h34, -⟩
      have e32 : ρ 32 = (.slice (some ⟨g, 0, none⟩) L c9) := h32
      have e34 : ρ 34 = (.int .i64 ((i + 1 : Nat) : Int)) := h34
      exact index_at (w := w') 4 rfl Try.underlying27 e32 e34 (by omega) (by kernel_rfl)
    refine tele_val rfl (.pointer (some ⟨g, (i + 1) * 4, none⟩)) (fun _ _ _ => rfl) ?_ ?_
    · rintro ρ w' he ⟨h35, -⟩
      have e35 : ρ 35 = (.pointer (some ⟨g, 0 + (i + 1) * 4, none⟩)) := h35
      simp [execOp, evR, e35, go_sem]
    refine tele_val rfl (strV kb) (fun _ _ _ => rfl) ?_ ?_
    · rintro ρ w' he ⟨h36, -⟩
      have e36 : ρ 36 = (.pointer (some ⟨g, (i + 1) * 4, none⟩)) := h36
      have c := (he.cell (p := ⟨g, (i + 1) * 4, none⟩) HGL.out).trans HB.out.1
      simp [execOp, evR, e36, c, go_sem]
    refine tele_val rfl (.bool true) (fun _ _ _ => rfl) ?_ ?_
    · rintro ρ w' he ⟨h31, h37, -⟩
      have e31 : ρ 31 = (strV ka) := h31
      have e37 : ρ 37 = (strV kb) := h37
      exact (exec_eql_str rfl e31 e37).trans (by rw [HQ.out])
    refine tele_move rfl (.inl rfl) rfl (isV (.bool true)) (fun ρ w' h => h) ?_
    refine tele_val rfl ((.slice (some ⟨g, 0, none⟩) L c9)) (fun ρ w' hk => by obtain ⟨_, hg, -⟩ := hk; have eg : ρ 39 = (.bool true) := hg; simp [wantedR, Region.wanted, asBoolR, eg]) ?_ ?_
    · rintro ρ w' he ⟨h5, -⟩
      have e5 : ρ 5 = (.slice (some ⟨g, 0, none⟩) L c9) := h5
      simp [execOp, evR, e5]
    refine tele_val rfl ((.int .i64 (i : Int))) (fun ρ w' hk => by obtain ⟨_, hg, -⟩ := hk; have eg : ρ 39 = (.bool true) := hg; simp [wantedR, Region.wanted, asBoolR, eg]) ?_ ?_
    · rintro ρ w' he ⟨h6, -⟩
      have e6 : ρ 6 = (.int .i64 (i : Int)) := h6
      simp [execOp, evR, e6]
    refine tele_val rfl (.pointer (some ⟨g, 0 + i * 4, none⟩)) (fun ρ w' hk => by obtain ⟨_, _, hg, -⟩ := hk; have eg : ρ 39 = (.bool true) := hg; simp [wantedR, Region.wanted, asBoolR, eg]) ?_ ?_
    · rintro ρ w' he ⟨h40, h41, -⟩
      have e40 : ρ 40 = (.slice (some ⟨g, 0, none⟩) L c9) := h40
      have e41 : ρ 41 = (.int .i64 (i : Int)) := h41
      exact index_at (w := w') 4 rfl Try.underlying27 e40 e41 (by omega) (by kernel_rfl)
    refine tele_val rfl (.pointer (some ⟨g, i * 4 + 1, none⟩)) (fun ρ w' hk => by obtain ⟨_, hg, -⟩ := hk; have eg : ρ 39 = (.bool true) := hg; simp [wantedR, Region.wanted, asBoolR, eg]) ?_ ?_
    · rintro ρ w' he ⟨h42, -⟩
      have e42 : ρ 42 = (.pointer (some ⟨g, 0 + i * 4, none⟩)) := h42
      simp [execOp, evR, e42, go_sem]
    refine tele_val rfl (.int .i64 ga) (fun ρ w' hk => by obtain ⟨_, hg, -⟩ := hk; have eg : ρ 39 = (.bool true) := hg; simp [wantedR, Region.wanted, asBoolR, eg]) ?_ ?_
    · rintro ρ w' he ⟨h43, -⟩
      have e43 : ρ 43 = (.pointer (some ⟨g, i * 4 + 1, none⟩)) := h43
      have c := (he.cell (p := ⟨g, i * 4 + 1, none⟩) HGL.out).trans HA.out.2.1
      simp [execOp, evR, e43, c, go_sem]
    refine tele_val rfl ((.slice (some ⟨g, 0, none⟩) L c9)) (fun ρ w' hk => by obtain ⟨_, hg, -⟩ := hk; have eg : ρ 39 = (.bool true) := hg; simp [wantedR, Region.wanted, asBoolR, eg]) ?_ ?_
    · rintro ρ w' he ⟨h5, -⟩
      have e5 : ρ 5 = (.slice (some ⟨g, 0, none⟩) L c9) := h5
      simp [execOp, evR, e5]
    refine tele_val rfl ((.int .i64 (i : Int))) (fun ρ w' hk => by obtain ⟨_, hg, -⟩ := hk; have eg : ρ 39 = (.bool true) := hg; simp [wantedR, Region.wanted, asBoolR, eg]) ?_ ?_
    · rintro ρ w' he ⟨h6, -⟩
      have e6 : ρ 6 = (.int .i64 (i : Int)) := h6
      simp [execOp, evR, e6]
    refine tele_val rfl (.int .i64 ((i + 1 : Nat) : Int)) (fun ρ w' hk => by obtain ⟨_, hg, -⟩ := hk; have eg : ρ 39 = (.bool true) := hg; simp [wantedR, Region.wanted, asBoolR, eg]) ?_ ?_
    · rintro ρ w' he ⟨h46, -⟩
      have e46 : ρ 46 = (.int .i64 (i : Int)) := h46
      have hw1 : IntKind.i64.wrap ((i : Int) + 1) = ((i + 1 : Nat) : Int) := by rw [IntWalk.i64_in _ (by omega)]; omega
      simp [execOp, evR, e46, hw1, go_sem]
    refine tele_val rfl (.pointer (some ⟨g, 0 + (i + 1) * 4, none⟩)) (fun ρ w' hk => by obtain ⟨_, _, hg, -⟩ := hk; have eg : ρ 39 = (.bool true) := hg; simp [wantedR, Region.wanted, asBoolR, eg]) ?_ ?_
    · rintro ρ w' he ⟨h45, h47, -⟩
      have e45 : ρ 45 = (.slice (some ⟨g, 0, none⟩) L c9) := h45
      have e47 : ρ 47 = (.int .i64 ((i + 1 : Nat) : Int)) := h47
      exact index_at (w := w') 4 rfl Try.underlying27 e45 e47 (by omega) (by kernel_rfl)
    refine tele_val rfl (.pointer (some ⟨g, (i + 1) * 4 + 1, none⟩)) (fun ρ w' hk => by obtain ⟨_, hg, -⟩ := hk; have eg : ρ 39 = (.bool true) := hg; simp [wantedR, Region.wanted, asBoolR, eg]) ?_ ?_
    · rintro ρ w' he ⟨h48, -⟩
      have e48 : ρ 48 = (.pointer (some ⟨g, 0 + (i + 1) * 4, none⟩)) := h48
      simp [execOp, evR, e48, go_sem]
    refine tele_val rfl (.int .i64 gb) (fun ρ w' hk => by obtain ⟨_, hg, -⟩ := hk; have eg : ρ 39 = (.bool true) := hg; simp [wantedR, Region.wanted, asBoolR, eg]) ?_ ?_
    · rintro ρ w' he ⟨h49, -⟩
      have e49 : ρ 49 = (.pointer (some ⟨g, (i + 1) * 4 + 1, none⟩)) := h49
      have c := (he.cell (p := ⟨g, (i + 1) * 4 + 1, none⟩) HGL.out).trans HB.out.2.1
      simp [execOp, evR, e49, c, go_sem]
    refine tele_val rfl (.bool q2) (fun ρ w' hk => by obtain ⟨_, _, hg, -⟩ := hk; have eg : ρ 39 = (.bool true) := hg; simp [wantedR, Region.wanted, asBoolR, eg]) ?_ ?_
    · rintro ρ w' he ⟨h44, h50, -⟩
      have e44 : ρ 44 = (.int .i64 ga) := h44
      have e50 : ρ 50 = (.int .i64 gb) := h50
      have h := HQ2.out
      simp [execOp, evR, e44, e50, h, go_sem]
    refine tele_val rfl (.bool q2) (fun _ _ _ => rfl) ?_ ?_
    · rintro ρ w' he ⟨h39, h51, -⟩
      have e39 : ρ 39 = (.bool true) := h39
      have e51 : ρ 51 = (.bool q2) := h51
      simp [execOp, evR, e39, e51, go_sem]
    refine tele_nil ?_
    rintro ρ w' hext ⟨f52, f51, f50, f49, f48, f47, f46, f45, f44, f43, f42, f41, f40, f39, f38, f37, f36, f35, f34, f33, f32, f31, f30, f29, f28, f27, -⟩
    replace f27 : ρ 27 = (.slice (some ⟨g, 0, none⟩) L c9) := f27
    replace f28 : ρ 28 = (.int .i64 (i : Int)) := f28
    replace f29 : ρ 29 = (.pointer (some ⟨g, 0 + i * 4, none⟩)) := f29
    replace f30 : ρ 30 = (.pointer (some ⟨g, i * 4, none⟩)) := f30
    replace f31 : ρ 31 = (strV ka) := f31
    replace f32 : ρ 32 = (.slice (some ⟨g, 0, none⟩) L c9) := f32
    replace f33 : ρ 33 = (.int .i64 (i : Int)) := f33
    replace f34 : ρ 34 = (.int .i64 ((i + 1 : Nat) : Int)) := f34
    replace f35 : ρ 35 = (.pointer (some ⟨g, 0 + (i + 1) * 4, none⟩)) := f35
    replace f36 : ρ 36 = (.pointer (some ⟨g, (i + 1) * 4, none⟩)) := f36
    replace f37 : ρ 37 = (strV kb) := f37
    replace f38 : ρ 38 = (.bool true) := f38
    replace f39 : ρ 39 = (.bool true) := f39
    replace f40 : ρ 40 = (.slice (some ⟨g, 0, none⟩) L c9) := f40
    replace f41 : ρ 41 = (.int .i64 (i : Int)) := f41
    replace f42 : ρ 42 = (.pointer (some ⟨g, 0 + i * 4, none⟩)) := f42
    replace f43 : ρ 43 = (.pointer (some ⟨g, i * 4 + 1, none⟩)) := f43
    replace f44 : ρ 44 = (.int .i64 ga) := f44
    replace f45 : ρ 45 = (.slice (some ⟨g, 0, none⟩) L c9) := f45
    replace f46 : ρ 46 = (.int .i64 (i : Int)) := f46
    replace f47 : ρ 47 = (.int .i64 ((i + 1 : Nat) : Int)) := f47
    replace f48 : ρ 48 = (.pointer (some ⟨g, 0 + (i + 1) * 4, none⟩)) := f48
    replace f49 : ρ 49 = (.pointer (some ⟨g, (i + 1) * 4 + 1, none⟩)) := f49
    replace f50 : ρ 50 = (.int .i64 gb) := f50
    replace f51 : ρ 51 = (.bool q2) := f51
    replace f52 : ρ 52 = (.bool q2) := f52
    simp only [puts, Act.put, List.setIfInBounds_toArray, List.set_cons_zero, List.set_cons_succ]
    rw [f52]
    clear f27
    clear f28
    clear f29
    clear f30
    clear f31
    clear f32
    clear f33
    clear f34
    clear f35
    clear f36
    clear f37
    clear f38
    clear f39
    clear f40
    clear f41
    clear f42
    clear f43
    clear f44
    clear f45
    clear f46
    clear f47
    clear f48
    clear f49
    clear f50
    clear f51
    clear f52
    cases q2
    · have HNS : Hid (samePl ⟨ka, ga, da, za⟩ ⟨kb, gb, db, zb⟩ = false) := Lib.hid (by unfold samePl; dsimp only; rw [HQ.out]; simpa using HQ2.out)
      clear HQ HQ2
      have HX4 := Lib.hid (HX3.out.trans hext)
      have HR4 : Hid (HR g 0 w' ws.toArray) := Lib.hid (HR3.out.ext hext HGL.out)
      have HZ4 : Hid (∀ o, w'.frozen? ⟨g, o, none⟩ = false) := Lib.hid fun o => (World.frozen?_of_block (hext.block g HGL.out)).trans (HZ.out o)
      have HA4 := Lib.hid (isW4.ext HAA.out HGL.out hext)
      have HB4 := Lib.hid (isW4.ext HBB.out HGL.out hext)
      have HGL4 := Lib.hid (Nat.lt_of_lt_of_le HGL.out hext.size)
      clear HA HB HAA HBB HX3 HR3 HZ HGL hext HOW
      have HX3 := HX4
      have HR3 := HR4
      have HZ := HZ4
      have HA := HA4
      have HB := HB4
      have HGL := HGL4
      clear HX4 HR4 HZ4 HA4 HB4 HGL4
      generalize w' = w3 at *
      go_upto_region 7 with (fail)
      refine wp_region_turns 2 [(0, 0, false), (0, 0, false), (0, 1, false), (0, 1, false), (0, 1, false), (0, 0, false), (0, 0, false), (0, 0, false), (0, 0, false), (0, 0, false), (0, 1, false), (0, 1, false), (0, 1, false), (0, 0, false), (0, 0, false), (0, 0, true), (1, 1, false), (1, 1, true)] (fun w0 c => match c with | 0 => w0 | 1 => w0.setCells g (i * 4) [strV kb, .int .i64 gb, .bool db, strV zb] | _ => (w0.setCells g (i * 4) [strV kb, .int .i64 gb, .bool db, strV zb]).setCells g ((i + 1) * 4) [strV ka, .int .i64 ga, .bool da, strV za]) (by kernel_rfl) (by kernel_rfl) (by kernel_rfl) (fun _ => rfl) ?_
      intro w0 wz hext hsz hwz
      have q0 : wz 0 = w0 := hwz 0
      have q1 : wz 1 = w0.setCells g (i * 4) [strV kb, .int .i64 gb, .bool db, strV zb] := hwz 1
      have q2 : wz 2 = (w0.setCells g (i * 4) [strV kb, .int .i64 gb, .bool db, strV zb]).setCells g ((i + 1) * 4) [strV ka, .int .i64 ga, .bool da, strV za] := hwz 2
      clear hwz
      have HA0 := isW4.ext HA.out HGL.out hext
      have HB0 := isW4.ext HB.out HGL.out hext
      have z0 : ∀ o, w0.frozen? ⟨g, o, none⟩ = false := fun o => (World.frozen?_of_block (hext.block g HGL.out)).trans (HZ.out o)
      unfold isW4 at HA0 HB0
      dsimp only at HA0 HB0
      refine detT_pure rfl (.slice (some ⟨g, 0, none⟩) L c9) (fun _ _ => rfl) ?_ ?_
      · rintro ρ ⟨h5, -⟩ w'
        have e5 : ρ 5 = .slice (some ⟨g, 0, none⟩) L c9 := h5
        simp [execOp, evR, e5, go_sem]
      refine detT_pure rfl (.int .i64 (i : Int)) (fun _ _ => rfl) ?_ ?_
      · rintro ρ ⟨h6, -⟩ w'
        have e6 : ρ 6 = .int .i64 (i : Int) := h6
        simp [execOp, evR, e6, go_sem]
      refine detT_pure rfl (.slice (some ⟨g, 0, none⟩) L c9) (fun _ _ => rfl) ?_ ?_
      · rintro ρ ⟨h5, -⟩ w'
        have e5 : ρ 5 = .slice (some ⟨g, 0, none⟩) L c9 := h5
        simp [execOp, evR, e5, go_sem]
      refine detT_pure rfl (.int .i64 (i : Int)) (fun _ _ => rfl) ?_ ?_
      · rintro ρ ⟨h6, -⟩ w'
        have e6 : ρ 6 = .int .i64 (i : Int) := h6
        simp [execOp, evR, e6, go_sem]
      refine detT_pure rfl (.int .i64 ((i + 1 : Nat) : Int)) (fun _ _ => rfl) ?_ ?_
      · rintro ρ ⟨h57, -⟩ w'
        have e57 : ρ 57 = .int .i64 (i : Int) := h57
        have hw1 : IntKind.i64.wrap ((i : Int) + 1) = ((i + 1 : Nat) : Int) := by rw [IntWalk.i64_in _ (by omega)]; omega
        simp [execOp, evR, e57, hw1, go_sem]
      refine detT_pure rfl (.slice (some ⟨g, 0, none⟩) L c9) (fun _ _ => rfl) ?_ ?_
      · rintro ρ ⟨h5, -⟩ w'
        have e5 : ρ 5 = .slice (some ⟨g, 0, none⟩) L c9 := h5
        simp [execOp, evR, e5, go_sem]
      refine detT_pure rfl (.int .i64 (i : Int)) (fun _ _ => rfl) ?_ ?_
      · rintro ρ ⟨h6, -⟩ w'
        have e6 : ρ 6 = .int .i64 (i : Int) := h6
        simp [execOp, evR, e6, go_sem]
      refine detT_pure rfl (.int .i64 ((i + 1 : Nat) : Int)) (fun _ _ => rfl) ?_ ?_
      · rintro ρ ⟨h60, -⟩ w'
        have e60 : ρ 60 = .int .i64 (i : Int) := h60
        have hw1 : IntKind.i64.wrap ((i : Int) + 1) = ((i + 1 : Nat) : Int) := by rw [IntWalk.i64_in _ (by omega)]; omega
        simp [execOp, evR, e60, hw1, go_sem]
      refine detT_pure rfl (.pointer (some ⟨g, 0 + (i + 1) * 4, none⟩)) (fun _ _ => rfl) ?_ ?_
      · rintro ρ ⟨h59, h61, -⟩ w'
        have e59 : ρ 59 = .slice (some ⟨g, 0, none⟩) L c9 := h59
        have e61 : ρ 61 = .int .i64 ((i + 1 : Nat) : Int) := h61
        exact index_at (w := w') 4 rfl Try.underlying27 e59 e61 (by omega) (by kernel_rfl)
      refine detT_read rfl (.agg #[strV kb, .int .i64 gb, .bool db, strV zb]) (fun _ _ => rfl) ?_ ?_
      · rintro ρ ⟨h62, -⟩ c hc1 hc2
        have e62 : ρ 62 = .pointer (some ⟨g, 0 + (i + 1) * 4, none⟩) := h62
        have hc : c = 0 := by have h1 : 0 ≤ c := hc1; have h2 : c ≤ 0 := hc2; omega
        rcases hc with rfl
        · rw [q0]
          have c0 := (hext.cell (p := ⟨g, (i + 1) * 4, none⟩) HGL.out).trans HB.out.1
          have c1 := (hext.cell (p := ⟨g, (i + 1) * 4 + 1, none⟩) HGL.out).trans HB.out.2.1
          have c2 := (hext.cell (p := ⟨g, (i + 1) * 4 + 2, none⟩) HGL.out).trans HB.out.2.2.1
          have c3 := (hext.cell (p := ⟨g, (i + 1) * 4 + 3, none⟩) HGL.out).trans HB.out.2.2.2
          simp [execOp, evR, e62, c0, c1, c2, c3, go_sem]
      refine detT_pure rfl (.slice (some ⟨g, 0, none⟩) L c9) (fun _ _ => rfl) ?_ ?_
      · rintro ρ ⟨h5, -⟩ w'
        have e5 : ρ 5 = .slice (some ⟨g, 0, none⟩) L c9 := h5
        simp [execOp, evR, e5, go_sem]
      refine detT_pure rfl (.int .i64 (i : Int)) (fun _ _ => rfl) ?_ ?_
      · rintro ρ ⟨h6, -⟩ w'
        have e6 : ρ 6 = .int .i64 (i : Int) := h6
        simp [execOp, evR, e6, go_sem]
      refine detT_pure rfl (.pointer (some ⟨g, 0 + i * 4, none⟩)) (fun _ _ => rfl) ?_ ?_
      · rintro ρ ⟨h64, h65, -⟩ w'
        have e64 : ρ 64 = .slice (some ⟨g, 0, none⟩) L c9 := h64
        have e65 : ρ 65 = .int .i64 (i : Int) := h65
        exact index_at (w := w') 4 rfl Try.underlying27 e64 e65 (by omega) (by kernel_rfl)
      refine detT_read rfl (.agg #[strV ka, .int .i64 ga, .bool da, strV za]) (fun _ _ => rfl) ?_ ?_
      · rintro ρ ⟨h66, -⟩ c hc1 hc2
        have e66 : ρ 66 = .pointer (some ⟨g, 0 + i * 4, none⟩) := h66
        have hc : c = 0 := by have h1 : 0 ≤ c := hc1; have h2 : c ≤ 0 := hc2; omega
        rcases hc with rfl
        · rw [q0]
          have c0 := (hext.cell (p := ⟨g, i * 4, none⟩) HGL.out).trans HA.out.1
          have c1 := (hext.cell (p := ⟨g, i * 4 + 1, none⟩) HGL.out).trans HA.out.2.1
          have c2 := (hext.cell (p := ⟨g, i * 4 + 2, none⟩) HGL.out).trans HA.out.2.2.1
          have c3 := (hext.cell (p := ⟨g, i * 4 + 3, none⟩) HGL.out).trans HA.out.2.2.2
          simp [execOp, evR, e66, c0, c1, c2, c3, go_sem]
      refine detT_pure rfl (.pointer (some ⟨g, 0 + i * 4, none⟩)) (fun _ _ => rfl) ?_ ?_
      · rintro ρ ⟨h54, h55, -⟩ w'
        have e54 : ρ 54 = .slice (some ⟨g, 0, none⟩) L c9 := h54
        have e55 : ρ 55 = .int .i64 (i : Int) := h55
        exact index_at (w := w') 4 rfl Try.underlying27 e54 e55 (by omega) (by kernel_rfl)
      refine detT_store rfl (fun _ _ => rfl) ?_ ?_
      · rintro ρ ⟨h68, h63, -⟩
        have e68 : ρ 68 = .pointer (some ⟨g, 0 + i * 4, none⟩) := h68
        have e63 : ρ 63 = .agg #[strV kb, .int .i64 gb, .bool db, strV zb] := h63
        show (execOp (evR ρ) _).run Try.prog (wz 0) = .ok .skip (wz 1)
        rw [q0, q1]
        obtain ⟨c0, c1, c2, c3⟩ := HA0
        have t0 := z0 (i * 4)
        have t1 := z0 (i * 4 + 1)
        have t2 := z0 (i * 4 + 2)
        have t3 := z0 (i * 4 + 3)
        unfold strV at *
        simp [execOp, evR, e68, e63, c0, c1, c2, c3, t0, t1, t2, t3, World.setCells, Nat.add_assoc, go_sem]
      refine detT_pure rfl (.pointer (some ⟨g, 0 + (i + 1) * 4, none⟩)) (fun _ _ => rfl) ?_ ?_
      · rintro ρ ⟨h56, h58, -⟩ w'
        have e56 : ρ 56 = .slice (some ⟨g, 0, none⟩) L c9 := h56
        have e58 : ρ 58 = .int .i64 ((i + 1 : Nat) : Int) := h58
        exact index_at (w := w') 4 rfl Try.underlying27 e56 e58 (by omega) (by kernel_rfl)
      refine detT_store rfl (fun _ _ => rfl) ?_ ?_
      · rintro ρ ⟨h69, h67, -⟩
        have e69 : ρ 69 = .pointer (some ⟨g, 0 + (i + 1) * 4, none⟩) := h69
        have e67 : ρ 67 = .agg #[strV ka, .int .i64 ga, .bool da, strV za] := h67
        show (execOp (evR ρ) _).run Try.prog (wz 1) = .ok .skip (wz 2)
        rw [q1, q2]
        obtain ⟨c0, c1, c2, c3⟩ := HB0
        have t0 := z0 ((i + 1) * 4)
        have t1 := z0 ((i + 1) * 4 + 1)
        have t2 := z0 ((i + 1) * 4 + 2)
        have t3 := z0 ((i + 1) * 4 + 3)
        unfold strV at *
        simp [execOp, evR, e69, e67, c0, c1, c2, c3, t0, t1, t2, t3, World.setCells, Nat.add_assoc, go_sem]
      simp only [DetT, applyV, Act.put, List.setIfInBounds_toArray, List.set_cons_zero, List.set_cons_succ]
      rw [q2]
      have HK : Hid (Rb g w3 _) := Lib.hid ((Rb.of_ext hext).trans ((Rb.sets g [strV kb, .int .i64 gb, .bool db, strV zb] (i * 4) w0).trans (Rb.sets g [strV ka, .int .i64 ga, .bool da, strV za] ((i + 1) * 4) _)))
      have HW : Hid (Ws ((w0.setCells g (i * 4) [strV kb, .int .i64 gb, .bool db, strV zb]).setCells g ((i + 1) * 4) [strV ka, .int .i64 ga, .bool da, strV za]) (.slice (some ⟨g, 0, none⟩) L c9) (Go.Sort.swp ws.toArray i (i + 1)).toList) := Lib.hid (by
        have hr0 := HR3.out.ext hext HGL.out
        have hg0 := Nat.lt_of_lt_of_le HGL.out hext.size
        have hs : ws.toArray.size = L := by simpa using HLL.out.symm
        have ha : ws.toArray[i]! = ⟨ka, ga, da, za⟩ := by rw [getElem!_pos ws.toArray i (by rw [hs]; omega)]; simpa using (List.getElem?_eq_some_iff.1 HGA.out).2
        have hb : ws.toArray[i + 1]! = ⟨kb, gb, db, zb⟩ := by rw [getElem!_pos ws.toArray (i + 1) (by rw [hs]; omega)]; simpa using (List.getElem?_eq_some_iff.1 HGB.out).2
        have hk := ((SWK.start hr0).swap wrE_len hg0 i (i + 1) (by rw [hs]; omega) (by rw [hs]; omega)).holds hg0 hr0 (by rw [size_swp])
        rw [ha, hb, Nat.zero_add, Nat.zero_add] at hk
        refine ws_of_hr hk (by rw [size_swp, hs]) HGC.out HGM.out (Nat.lt_of_lt_of_le hg0 ((Rb.sets g _ _ _).trans (Rb.sets g _ _ _)).size) (fun x hx => ?_)
        obtain ⟨e1, e2⟩ := swap_split HGA.out HGB.out
        rw [e2] at hx
        refine HWS.out.2 x ?_
        rw [e1]
        simp only [List.mem_append, List.mem_cons] at hx ⊢
        rcases hx with hx | hx | hx | hx
        · exact .inl hx
        · exact .inr (.inr (.inl hx))
        · exact .inr (.inl hx)
        · exact .inr (.inr (.inr hx)))
      obtain ⟨W, hW⟩ : ∃ W, W = (w0.setCells g (i * 4) [strV kb, .int .i64 gb, .bool db, strV zb]).setCells g ((i + 1) * 4) [strV ka, .int .i64 ga, .bool da, strV za] := ⟨_, rfl⟩
      rw [← hW] at HK HW ⊢
      clear hW q0 q1 q2
      have HX5 := Lib.hid (HK.out.ext HX3.out HG1.out)
      have hml : (Go.Sort.swp ws.toArray i (i + 1)).toList.length = L := by rw [Array.length_toList, size_swp]; simpa using HLL.out.symm
      have HRC := Lib.hid (show rcanonF (Go.Sort.swp ws.toArray i (i + 1)).toList = rcanonF ws by
        obtain ⟨e1, e2⟩ := swap_split HGA.out HGB.out
        rw [e2]
        conv => rhs; rw [e1]
        exact (rcanon_swap _ _ _ _ HNS.out).symm)
      have HC1 := Lib.hid (canon_any (.slice A L c) ws W (HWS.out.ext HX5.out) (by rw [← HLL.out]; omega))
      generalize (Go.Sort.swp ws.toArray i (i + 1)).toList = ms at *
      clear HA HB HGA HGB HR3 HZ HGL HX3 HK
      go_wp2_with fail
      refine HC1.out.mono ?_
      rintro e w5 ⟨r, rfl, hr, hx5⟩
      obtain ⟨A4, c4, rfl⟩ := ws_slice hr
      have HC2 := Lib.hid (canon_any (.slice (some ⟨g, 0, none⟩) L c9) ms w5 (HW.out.ext hx5) (by rw [hml]; omega))
      rw [HRC.out] at HC2
      have HR := Lib.hid hr
      have HX6 := Lib.hid (HX5.out.trans hx5)
      clear HC1 hr hx5 hml
      go_wp2_with fail
      refine HC2.out.mono ?_
      rintro e w6 ⟨r6, rfl, hr6, hx6⟩
      obtain ⟨A6, c6, rfl⟩ := ws_slice hr6
      have HS := Lib.hid (wsSame_any (.slice A4 (rcanonF ws).length c4) (.slice A6 (rcanonF ws).length c6) (rcanonF ws) w6 (HR.out.ext hx6) hr6)
      have HX7 := Lib.hid (HX6.out.trans hx6)
      clear HC2 hr6 hx6 HR HX6
      go_wp2_with fail
      refine HS.out.mono ?_
      rintro e w7 ⟨rfl, hx7⟩
      go_wp2_with fail
      refine (HL.out _).mono ?_
      rintro e w8 ⟨rfl, hx8⟩
      go_wp2_with fail
      go_ret
      exact ⟨rfl, (HX7.out.trans hx7).trans hx8⟩
    · go_wp2_with fail
      refine (HL.out _).mono ?_
      rintro e w9 ⟨rfl, hx9⟩
      go_wp2_with fail
      go_ret
      exact ⟨rfl, (HX3.out.trans hext).trans hx9⟩
end Go.Proofs.Ytocdifjdeifclaa
