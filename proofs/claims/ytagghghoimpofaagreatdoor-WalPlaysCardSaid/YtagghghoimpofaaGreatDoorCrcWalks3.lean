/-
  The walks of layer 2: what crc.bytes, More, Sum, Right, Fix, Join and the document's own compute.
-/
import Derived.Test.YtagghghoimpofaaGreatDoorBytes
import Derived.Test.YtagghghoimpofaaGreatDoorCrcPlain
import Derived.Test.YtagghghoimpofaaGreatDoorRows
import Derived.Outline
namespace Go.Proofs.YtagghghoimpofaaGreatDoor
open Go.RowKit Mono Crc

set_option maxHeartbeats 400000 in
theorem crcbytes_any (x : BitVec 32) (v : Value) (l : List UInt8) (w : World) (hv : Bs w v l) :
    Calls Tryz.prog 128 #[.int .u32 (x.toNat : Int), v] w fun e w' => e = .returned (.int .u32 ((crcB x l).toNat : Int)) ∧ w = w' := by
  obtain ⟨A, c, rfl, h1, h2, _, h4⟩ := hv.open_
  unfold maxLen at h2
  have hx := x.isLt
  go_enter Tryz.func128, Tryz.ntmps128
  go_wp2
  go_loop [0, 6, 9, 18] (fun r _ i _ => ∃ k : Nat, k ≤ l.length ∧ i = .int .i64 k ∧ r = .int .u32 ((crcB x (l.take k)).toNat : Int)) (fun _ _ i _ => l.length - (intOf i).toNat)
  case atStart => exact ⟨0, Nat.zero_le _, rfl, by simp [crcB_nil]⟩
  case round =>
    obtain ⟨k, hk, rfl, rfl⟩ := hrel
    by_cases hlt : k < l.length
    · obtain ⟨b, off, rfl, hb, hc⟩ := h4 (by omega)
      have hck := hc k l[k] (List.getElem?_eq_getElem hlt)
      have hb8 : l[k].toNat < 256 := l[k].toNat_lt
      have hs := crcB_snoc x l k hlt
      have HS := Lib.hid hs
      clear hs hc h4
      generalize l[k] = y at *
      generalize crcB x (l.take k) = r at *
      have hr := r.isLt
      go_wp2
      rw [up_int]
      go_loop [0, 18] (fun s i => ∃ (j : Nat), j ≤ 8 ∧ i = .int .i64 j ∧ s = .int .u32 ((stN j (r ^^^ up y)).toNat : Int)) (fun _ i => 8 - (intOf i).toNat)
      case atStart => exact ⟨0, by omega, rfl, rfl⟩
      case round =>
        obtain ⟨j, hj, rfl, rfl⟩ := hrel
        by_cases hlt : j < 8
        · have HT := Lib.hid (show st (stN j (r ^^^ up y)) = stN (j + 1) (r ^^^ up y) from rfl)
          generalize stN j (r ^^^ up y) = z at *
          have hz := z.isLt
          go_wp2
          go_round
          case rel => exact ⟨j + 1, by omega, by go_num, by rw [st_int, HT.out]⟩
          case measure => simp [intOf]; omega
        · have hj8 : j = 8 := by omega
          subst hj8
          go_wp2
          go_round
          case rel => exact ⟨k + 1, by omega, by go_num, by rw [HS.out]⟩
          case measure => simp [intOf]; omega
    · go_wp2
      go_ret
      exact ⟨by rw [List.take_of_length_le (by omega)]; rfl, rfl⟩
set_option maxHeartbeats 400000 in
theorem crcMore_any (x : BitVec 32) (v : Value) (l : List UInt8) (w : World) (hv : Bs w v l) :
    Calls Tryz.prog 109 #[.int .u32 (x.toNat : Int), v] w fun e w' => e = .returned (.int .u32 ((more x l).toNat : Int)) ∧ w = w' := by
  have hx := x.isLt
  go_enter Tryz.func109, Tryz.ntmps109
  go_wp2_with fail
  rw [not_int]
  refine (crcbytes_any (~~~ x) v l w hv).mono ?_
  rintro e w' ⟨rfl, rfl⟩
  go_wp2_with fail
  rw [not_int]
  go_ret
  exact ⟨rfl, rfl⟩

set_option maxHeartbeats 400000 in
theorem crcSum_any (v : Value) (l : List UInt8) (w : World) (hv : Bs w v l) :
    Calls Tryz.prog 97 #[v] w fun e w' => e = .returned (.int .u32 ((sum l).toNat : Int)) ∧ w = w' := by
  go_enter Tryz.func97, Tryz.ntmps97
  go_wp2_with fail
  refine (crcMore_any 0#32 v l w hv).mono ?_
  rintro e w' ⟨rfl, rfl⟩
  rw [sum_more]
  go_wp2_with fail
  go_ret
  exact ⟨rfl, rfl⟩

set_option maxHeartbeats 400000 in
theorem refbit_any (x : BitVec 32) (b : Int) (p : Bool) (hb : b = if p then 1 else 0) (w : World) :
    Calls Tryz.prog 135 #[.int .u32 (x.toNat : Int), .int .u32 b] w fun e w' => e = .returned (.int .u32 ((bitr x p).toNat : Int)) ∧ w = w' := by
  have hx := x.isLt
  by_cases h : (x.toNat : Int) / 2147483648 = b
  · have HB := Lib.hid (bitr_same x b p hb h)
    have hm : ((x.toNat : Int) / 2147483648 != b) = false := by rw [h]; simp
    clear hb h
    go_enter Tryz.func135, Tryz.ntmps135
    go_wp2
    go_ret
    exact ⟨by rw [← HB.out]; rfl, rfl⟩
  · have HB := Lib.hid (bitr_other x b p hb h)
    have hm : ((x.toNat : Int) / 2147483648 != b) = true := by rw [bne_iff_ne]; exact h
    clear hb h
    go_enter Tryz.func135, Tryz.ntmps135
    go_wp2
    go_ret
    exact ⟨by rw [← HB.out]; rfl, rfl⟩

set_option maxHeartbeats 400000 in
theorem refcomes_any (x : BitVec 32) (v : Value) (l : List UInt8) (w : World) (hv : Bs w v l) :
    Calls Tryz.prog 121 #[.int .u32 (x.toNat : Int), v] w fun e w' => e = .returned (.int .u32 ((refB x l).toNat : Int)) ∧ w = w' := by
  obtain ⟨A, c, rfl, h1, h2, _, h4⟩ := hv.open_
  unfold maxLen at h2
  have hx := x.isLt
  go_enter Tryz.func121, Tryz.ntmps121
  go_wp2
  go_loop [0, 5, 6] (fun r i _ => ∃ k : Nat, k ≤ l.length ∧ i = .int .i64 k ∧ r = .int .u32 ((refB x (l.take k)).toNat : Int)) (fun _ i _ => l.length - (intOf i).toNat)
  case atStart => exact ⟨0, Nat.zero_le _, rfl, by simp [refB]⟩
  case round =>
    obtain ⟨k, hk, rfl, rfl⟩ := hrel
    by_cases hlt : k < l.length
    · obtain ⟨b, off, rfl, hb, hc⟩ := h4 (by omega)
      have hck := hc k l[k] (List.getElem?_eq_getElem hlt)
      have hb8 : l[k].toNat < 256 := l[k].toNat_lt
      have HS := Lib.hid (refB_snoc x l k hlt)
      clear hc h4
      generalize l[k] = y at *
      generalize refB x (l.take k) = r at *
      have hr := r.isLt
      go_wp2
      go_loop [0, 6] (fun s i => ∃ (j : Nat), j ≤ 8 ∧ i = .int .i64 ((7 : Int) - (j : Int)) ∧ s = .int .u32 ((bitsB r y j).toNat : Int)) (fun _ i => (intOf i + 1).toNat)
      case atStart => exact ⟨0, by omega, rfl, rfl⟩
      case round =>
        obtain ⟨j, hj, rfl, rfl⟩ := hrel
        by_cases hlt : j < 8
        · have HT := Lib.hid (show bitr (bitsB r y j) (y.toNat.testBit (7 - j)) = bitsB r y (j + 1) from rfl)
          generalize bitsB r y j = z at *
          have hz := z.isLt
          have h7 : 0 ≤ (7 : Int) - (j : Int) := by omega
          go_wp2_with fail
          rw [bitAt_int]
          refine (refbit_any z (bitAt y (7 - j)) (y.toNat.testBit (7 - j)) rfl w).mono ?_
          rintro e w' ⟨rfl, rfl⟩
          rw [HT.out]
          go_wp2
          go_round
          case rel => exact ⟨j + 1, by omega, by go_num, rfl⟩
          case measure => simp [intOf]; omega
        · have hj8 : j = 8 := by omega
          subst hj8
          go_wp2
          go_round
          case rel => exact ⟨k + 1, by omega, by go_num, by rw [HS.out]⟩
          case measure => simp [intOf]; omega
    · go_wp2
      go_ret
      exact ⟨by rw [List.take_of_length_le (by omega)]; rfl, rfl⟩

set_option maxHeartbeats 400000 in
set_option maxHeartbeats 400000 in
theorem refSum_any (v : Value) (l : List UInt8) (w : World) (hv : Bs w v l) :
    Calls Tryz.prog 104 #[v] w fun e w' => e = .returned (.int .u32 ((sum l).toNat : Int)) ∧ w = w' := by
  go_enter Tryz.func104, Tryz.ntmps104
  go_wp2_with fail
  refine (refcomes_any (BitVec.allOnes 32) v l w hv).mono ?_
  rintro e w' ⟨rfl, rfl⟩
  rw [← crcB_eq]
  go_wp2_with fail
  rw [not_int]
  go_ret
  exact ⟨rfl, rfl⟩
theorem sumB_cells (s : BitVec 32) : (#[Value.int .u8 ((s.toNat : Int) / 16777216), Value.int .u8 ((s.toNat : Int) / 65536 % 256), Value.int .u8 ((s.toNat : Int) / 256 % 256), Value.int .u8 ((s.toNat : Int) % 256)] : Array Value).toList = (sumB s).map bv := by
  have h := congrArg (List.map (Value.int .u8)) (sumB_int s)
  rw [List.map_map] at h
  exact h.symm

set_option maxHeartbeats 400000 in
theorem crcFix_any (v : Value) (l : List UInt8) (w : World) (hv : Bs w v l) (hl : l.length ≤ 140737488355000) :
    Calls Tryz.prog 80 #[v] w fun e w' => ∃ r, e = .returned r ∧ OwB w' w.heap.size r (fix l) ∧ Ext w w' := by
  go_enter Tryz.func80, Tryz.ntmps80
  go_wp2_with fail
  refine (crcSum_any v l _ hv).mono ?_
  rintro e w' ⟨rfl, rfl⟩
  have HF := Lib.hid (show l ++ sumB (sum l) = fix l from rfl)
  have hc := sumB_cells (sum l)
  generalize sum l = s at *
  have HC := Lib.hid hc
  clear hc
  have hs := s.isLt
  go_wp2_with (first
    | (at_builtin
       refine wpList_append_bs _ rfl (.tmp 6) (.tmp 7) rfl (OwB.empty_ w (Nat.le_refl _)) (hv.ext (ext_alloc _ _)) rfl rfl ?_ ?_ ?_
       · simp; omega
       · simp
       intro v1 w1 hown1 hg1 hat1
       have hb1 : Below w.heap.size w w1 := Below.growB (ext_alloc w _) (OwB.empty_ w (Nat.le_refl _)) hg1 (Nat.le_refl _) (by simp)
       have hz1 := hb1.size)
    | (at_builtin
       refine wpList_append_bs _ rfl (.tmp 8) (.tmp 20) rfl (hown1.ext (ext_alloc _ _)) (Bs.alloc_ (l := sumB s) w1 5 _ HC.out rfl (Nat.le_refl _) (show (4 : Nat) ≤ maxLen by decide)) rfl rfl ?_ ?_ ?_
       · simp [sumB]; omega
       · simp; omega
       intro v2 w2 hown2 hg2 hat2
       have hb2 : Below w.heap.size w w2 := Below.growB (hb1.alloc hz1 _) (hown1.ext (ext_alloc _ _)) hg2 (Nat.le_refl _) (by simp; omega)))
  go_ret
  exact ⟨v2, rfl, by rw [← HF.out]; simpa using hown2, hb2⟩

set_option maxHeartbeats 400000 in
theorem refFix_any (v : Value) (l : List UInt8) (w : World) (hv : Bs w v l) (hl : l.length ≤ 140737488355000) :
    Calls Tryz.prog 93 #[v] w fun e w' => ∃ r, e = .returned r ∧ OwB w' w.heap.size r (fix l) ∧ Ext w w' := by
  go_enter Tryz.func93, Tryz.ntmps93
  go_wp2_with fail
  refine (refSum_any v l _ hv).mono ?_
  rintro e w' ⟨rfl, rfl⟩
  have HF := Lib.hid (show l ++ sumB (sum l) = fix l from rfl)
  have hc := sumB_cells (sum l)
  generalize sum l = s at *
  have HC := Lib.hid hc
  clear hc
  have hs := s.isLt
  go_wp2_with (first
    | (at_builtin
       refine wpList_append_bs _ rfl (.tmp 6) (.tmp 7) rfl (OwB.empty_ w (Nat.le_refl _)) (hv.ext (ext_alloc _ _)) rfl rfl ?_ ?_ ?_
       · simp; omega
       · simp
       intro v1 w1 hown1 hg1 hat1
       have hb1 : Below w.heap.size w w1 := Below.growB (ext_alloc w _) (OwB.empty_ w (Nat.le_refl _)) hg1 (Nat.le_refl _) (by simp)
       have hz1 := hb1.size)
    | (at_builtin
       refine wpList_append_bs _ rfl (.tmp 8) (.tmp 20) rfl (hown1.ext (ext_alloc _ _)) (Bs.alloc_ (l := sumB s) w1 5 _ HC.out rfl (Nat.le_refl _) (show (4 : Nat) ≤ maxLen by decide)) rfl rfl ?_ ?_ ?_
       · simp [sumB]; omega
       · simp; omega
       intro v2 w2 hown2 hg2 hat2
       have hb2 : Below w.heap.size w w2 := Below.growB (hb1.alloc hz1 _) (hown1.ext (ext_alloc _ _)) hg2 (Nat.le_refl _) (by simp; omega)))
  go_ret
  exact ⟨v2, rfl, by rw [← HF.out]; simpa using hown2, hb2⟩
set_option maxHeartbeats 400000 in
theorem crcRight_any (v : Value) (l : List UInt8) (w : World) (hv : Bs w v l) :
    Calls Tryz.prog 123 #[v] w fun e w' => e = .returned (.bool (right l)) ∧ w = w' := by
  obtain ⟨A, c, rfl, h1, h2, _, h4⟩ := hv.open_
  unfold maxLen at h2
  by_cases hl : l.length < 4
  · have HR := Lib.hid (right_short l hl)
    go_enter Tryz.func123, Tryz.ntmps123
    go_wp2_with fail
    go_ret
    exact ⟨by rw [HR.out]; rfl, rfl⟩
  · obtain ⟨b, off, rfl, hb, hc⟩ := h4 (by omega)
    obtain ⟨m, x0, x1, x2, x3, rfl⟩ := four_of l (by omega)
    have hlen : (m ++ [x0, x1, x2, x3]).length = m.length + 4 := by simp
    have c0 := hc m.length x0 (by simp)
    have c1 := hc (m.length + 1) x1 (by simp)
    have c2 := hc (m.length + 2) x2 (by simp)
    have c3 := hc (m.length + 3) x3 (by simp)
    have hm : Bs w (.slice (some ⟨b, off, none⟩) m.length c) m := by
      have := hv.upto (k := m.length) (by simp)
      rwa [List.take_left] at this
    have e0 := x0.toNat_lt
    have e1 := x1.toNat_lt
    have e2 := x2.toNat_lt
    have e3 := x3.toNat_lt
    obtain ⟨b0, h0⟩ : ∃ b0, ((x0.toNat : Int) == ((sum m).toNat : Int) / 16777216) = b0 := ⟨_, rfl⟩
    obtain ⟨b1, h1'⟩ : ∃ b0, ((x1.toNat : Int) == ((sum m).toNat : Int) / 65536 % 256) = b0 := ⟨_, rfl⟩
    obtain ⟨b2, h2'⟩ : ∃ b0, ((x2.toNat : Int) == ((sum m).toNat : Int) / 256 % 256) = b0 := ⟨_, rfl⟩
    obtain ⟨b3, h3'⟩ : ∃ b0, ((x3.toNat : Int) == ((sum m).toNat : Int) % 256) = b0 := ⟨_, rfl⟩
    have HR := Lib.hid (right_bytes m x0 x1 x2 x3 b0 b1 b2 b3 h0 h1' h2' h3')
    clear hc h4 hv
    rw [hlen] at hl h1 ⊢
    have hs := (sum m).isLt
    generalize hsm : sum m = s at *
    have HS := Lib.hid hsm
    clear hsm
    generalize m.length = n at *
    have go : (b0 = false) ∨ (b0 = true ∧ b1 = false) ∨ (b0 = true ∧ b1 = true ∧ b2 = false) ∨ (b0 = true ∧ b1 = true ∧ b2 = true ∧ b3 = false) ∨ (b0 = true ∧ b1 = true ∧ b2 = true ∧ b3 = true) := by
      cases b0 <;> cases b1 <;> cases b2 <;> cases b3 <;> simp
    rcases go with rfl | ⟨rfl, rfl⟩ | ⟨rfl, rfl, rfl⟩ | ⟨rfl, rfl, rfl, rfl⟩ | ⟨rfl, rfl, rfl, rfl⟩
    all_goals
      go_enter Tryz.func123, Tryz.ntmps123
      go_wp2_with fail
      refine (crcSum_any _ m _ hm).mono ?_
      rintro e w' ⟨rfl, rfl⟩
      rw [HS.out]
      go_wp2_with fail
      go_ret
      exact ⟨by rw [HR.out]; rfl, rfl⟩
set_option maxHeartbeats 400000 in
theorem refRight_any (v : Value) (l : List UInt8) (w : World) (hv : Bs w v l) (hl3 : l.length ≤ 140737488355000) :
    Calls Tryz.prog 103 #[v] w fun e w' => e = .returned (.bool (right l)) ∧ Ext w w' := by
  obtain ⟨A, c, rfl, h1, h2, _, _⟩ := hv.open_
  unfold maxLen at h2
  by_cases hl : l.length < 4
  · have HR := Lib.hid (right_short l hl)
    go_enter Tryz.func103, Tryz.ntmps103
    go_wp2_with fail
    go_ret
    exact ⟨by rw [HR.out]; rfl, Ext.refl _⟩
  · go_enter Tryz.func103, Tryz.ntmps103
    go_wp2_with fail
    refine wp_region_mono (by kernel_rfl) (by kernel_rfl) ?_
    refine tele_move rfl (.inl rfl) rfl (isV (.slice A l.length c)) (fun ρ w' h => h) ?_
    refine tele_move rfl (.inl rfl) rfl (isV (.int .i64 ((l.length : Int) - 4))) (fun ρ w' h => h) ?_
    refine tele_val rfl (.slice A (l.length - 4) c) (fun _ _ _ => rfl) ?_ ?_
    · rintro ρ w' he ⟨h9, h10, -⟩
      have e9 : ρ 9 = .slice A l.length c := h9
      have e10 : ρ 10 = .int .i64 ((l.length : Int) - 4) := h10
      simp [execOp, evR, e9, e10, go_sem]
      rw [if_pos (by omega), show ((l.length : Int) - 4).toNat = l.length - 4 by omega]
    refine tele_call rfl rfl Tryz.func93 (by kernel_rfl) (isBs (fix (l.take (l.length - 4)))) (fun _ _ _ => rfl) ?_ ?_
    · rintro ρ w' he ⟨h11, -⟩
      have e11 : ρ 11 = .slice A (l.length - 4) c := h11
      simp only [evR, List.map_toArray, List.map_cons, List.map_nil, e11]
      refine (refFix_any _ _ _ ((hv.ext he).upto (by omega)) (by simp; omega)).mono ?_
      rintro e w'' ⟨r, rfl, h, he⟩
      exact ⟨_, rfl, he, h.bs⟩
    refine tele_val rfl (strV (fix (l.take (l.length - 4)))) (fun _ _ _ => rfl) ?_ ?_
    · rintro ρ w' he ⟨h12, -⟩
      have e12 : Bs w' (ρ 12) (fix (l.take (l.length - 4))) := h12
      simp [execOp, evR, e12.str_ 34 9 5 Tryz.underlying34 Tryz.underlying5 Tryz.underlying9]
    refine tele_move rfl (.inl rfl) rfl (isV (.slice A l.length c)) (fun ρ w' h => h) ?_
    refine tele_val rfl (strV l) (fun _ _ _ => rfl) ?_ ?_
    · rintro ρ w' he ⟨h14, -⟩
      have e14 : ρ 14 = .slice A l.length c := h14
      simp [execOp, evR, e14, (hv.ext he).str_ 34 9 5 Tryz.underlying34 Tryz.underlying5 Tryz.underlying9]
    refine tele_val rfl (.bool (right l)) (fun _ _ _ => rfl) ?_ ?_
    · rintro ρ w' he ⟨h13, h15, -⟩
      have e13 : ρ 13 = strV (fix (l.take (l.length - 4))) := h13
      have e15 : ρ 15 = strV l := h15
      rw [exec_eql_str rfl e13 e15, fix_right l (by omega)]
    refine tele_move rfl (.inr rfl) rfl (isV (.bool (right l))) (fun ρ w' h => h) ?_
    refine tele_nil ?_
    rintro ρ w' he ⟨e2, -⟩
    have e2' : ρ 2 = .bool (right l) := e2
    simp only [puts, Act.put, List.setIfInBounds_toArray, List.set_cons_zero, List.set_cons_succ]
    rw [e2']
    go_wp2_with fail
    go_ret
    exact ⟨rfl, he⟩
end Go.Proofs.YtagghghoimpofaaGreatDoor
