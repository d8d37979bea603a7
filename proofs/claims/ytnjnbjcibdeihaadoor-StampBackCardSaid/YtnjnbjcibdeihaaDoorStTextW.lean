/-
  The walks of both Text of stamps.
-/
import Derived.Test.YtnjnbjcibdeihaaDoorStText
import Derived.Test.YtnjnbjcibdeihaaDoorBytes
import Derived.Lib.SmallJoins
import Derived.Sort.Grow
namespace Go.Proofs.YtnjnbjcibdeihaaDoor
open Go Go.RowKit Mono
open Go.Lib (decDigits)
set_option linter.unusedVariables false
set_option linter.unusedSimpArgs false

theorem var_ext {P : Program} {w w' : World} {nm : String} {cs : Array Value} (h : w.var? P nm = some cs) (x : Ext w w') : w'.var? P nm = some cs := by
  unfold World.var? at h ⊢
  cases hg : P.globalNamed nm with
  | none => rw [hg] at h; cases h
  | some g =>
    rw [hg] at h
    simp only [Option.bind_some] at h ⊢
    have hlt : g < w.heap.size := by
      rcases Nat.lt_or_ge g w.heap.size with k | k
      · exact k
      · rw [Array.getElem?_eq_none k] at h; cases h
    rw [x.block g hlt]
    exact h

theorem bs_app (a b : List UInt8) : (⟨a.toArray⟩ : ByteArray) ++ ⟨b.toArray⟩ = ⟨(a ++ b).toArray⟩ := by
  apply ByteArray.ext
  simp [ByteArray.data_append]
set_option maxHeartbeats 2000000 in
theorem digits_any (n : Nat) (w : World) (hn : n ≤ 281474976710656) :
    Calls Tryd.prog 34 #[.int .i64 (n : Int)] w fun e w' => e = .returned (strV (decDigits n)) ∧ Ext w w' := by
  go_enter Tryd.func34, Tryd.ntmps34
  go_wp2_with fail
  go_loopw [0, 3] (fun i s wr => ∃ (m : Nat) (t : List UInt8), m ≤ n ∧ i = .int .i64 m ∧ s = strV t ∧ decDigits n = decDigits m ++ t ∧ Ext w wr) (fun i _ _ => (intOf i).toNat)
  case atStart => exact ⟨n, [], Nat.le_refl _, rfl, rfl, by simp, Ext.refl _⟩
  case round =>
    obtain ⟨m, t, hm, rfl, rfl, hd, hx⟩ := hrel
    have hlen : t.length ≤ 15 := by
      have h1 := congrArg List.length hd
      rw [List.length_append] at h1
      have h2 := dec_len n hn
      omega
    have hov : ¬ 9223372036854775807 < 1 + t.length := by omega
    have hov2 : 1 + t.length ≤ 9223372036854775807 := by omega
    clear hlen
    have HD := Lib.hid hd
    clear hd
    have q0 : 0 ≤ (m : Int) % 10 := by omega
    have q1 : (m : Int) % 10 < 10 := by omega
    have hb : Bs (wr.alloc (.cells #[.int .u8 (48 + (m : Int) % 10)] 5)) (.slice (some ⟨wr.heap.size, 0, none⟩) 1 1) [UInt8.ofNat (48 + m % 10)] :=
      Bs.alloc_ wr 5 _ (by simp [bv, dig_nat (m % 10) (by omega)]; omega) rfl (Nat.le_refl _) (by decide)
    have c := hb.str_ (P := Tryd.prog) 38 9 5 Tryd.underlying38 Tryd.underlying5 Tryd.underlying9
    clear hb
    unfold strV at c ⊢
    have HX := Lib.hid (show ([UInt8.ofNat (48 + m % 10)] : List UInt8) ++ t = UInt8.ofNat (48 + m % 10) :: t from rfl)
    by_cases hm10 : m < 10
    · have HF := Lib.hid (show decDigits n = UInt8.ofNat (48 + m % 10) :: t by
        rw [HD.out, decDigits, dif_pos hm10, Nat.mod_eq_of_lt hm10]
        rfl)
      have z : ((m : Int) / 10 == 0) = true := by rw [beq_iff_eq]; omega
      generalize UInt8.ofNat (48 + m % 10) = x at *
      set_option maxRecDepth 10000 in
      go_wp2_with fail
      go_ret
      exact ⟨by rw [HF.out]; exact congrArg (fun s => Ending.returned (Value.string s)) (bs_app [x] t), Ext.trans hx (ext_alloc _ _)⟩
    · have HF := Lib.hid (show decDigits n = decDigits (m / 10) ++ (UInt8.ofNat (48 + m % 10) :: t) by
        rw [HD.out, decDigits, dif_neg hm10, List.append_assoc]
        rfl)
      have z : ((m : Int) / 10 == 0) = false := by rw [beq_eq_false_iff_ne]; omega
      generalize UInt8.ofNat (48 + m % 10) = x at *
      set_option maxRecDepth 10000 in
      go_wp2_with fail
      go_roundw
      case rel => exact ⟨m / 10, x :: t, by omega, by go_num, congrArg Value.string (bs_app [x] t), HF.out, Ext.trans hx (ext_alloc _ _)⟩
      case measure => simp [intOf]; omega
/-! ### Texts -/
/-- The table of powers holds what the program's text lays. -/
def Tb (w : World) : Prop := Lib.TabIs Tryd.prog w "internal/strconv.uint64pow10" .u64 Lib.pow10Tab
theorem Tb.ext {w w' : World} (h : Tb w) (x : Ext w w') : Tb w' := var_ext h x
theorem ext_grow (w : World) (k : Nat) (os : Array Obj) : Ext w (Go.Sort.grow (w.drewN k) os) :=
  ⟨rfl, rfl, rfl, by simp [Go.Sort.grow, World.drewN], fun j hj => by
    show ((w.drewN k).heap ++ os)[j]? = w.heap[j]?
    have e : (w.drewN k).heap = w.heap := rfl
    rw [e, Array.getElem?_append_left hj]⟩
theorem itoa_any (n : Nat) (w : World) (hn : n ≤ 281474976710656) (ht : Tb w) :
    Calls Tryd.prog 33 #[.int .i64 (n : Int)] w fun e w' => e = .returned (strV (decDigits n)) ∧ Ext w w' := by
  refine (Tryd.strconv_Itoa (n : Int) (by omega) (by omega) w ht).mono ?_
  rintro e w' ⟨rfl, k, os, rfl⟩
  rw [Go.Lib.itoa_nonneg]
  exact ⟨rfl, ext_grow w k os⟩
set_option maxHeartbeats 2000000 in
set_option maxRecDepth 10000 in
theorem refSText_any (a b : Int) (w : World) :
    Calls Tryd.prog 25 #[stV a b] w fun e w' => e = .returned (strV (stext a b)) ∧ Ext w w' := by
  unfold stV
  rcases sgood_cases a b with ⟨rfl, rfl⟩ | ⟨rfl, h⟩ | h | h | ⟨h1, h2, rfl⟩ | ⟨h1, h2, rfl⟩ | ⟨h1, h2, h3, h4⟩
  · have HC := Lib.hid (show stext 0 0 = [45] from stext_zero)
    have HS := Lib.hid (show sgood 0 0 = true from sgood_true (by omega))
    go_enter Tryd.func25, Tryd.ntmps25
    go_wp2_with fail
    have hx : Ext w (w.alloc (.cells #[.int .i64 0, .int .i64 0] 23)) := ext_alloc _ _
    have ba := Blk.new w #[.int .i64 0, .int .i64 0] 23
    refine (refSGood_any 0 0 _).mono ?_
    rintro e w1 ⟨rfl, x1⟩
    rw [HS.out]
    replace ba := ba.ext x1
    replace hx := Ext.trans hx x1
    clear x1
    have bac0 := ba.cell (i := 0) rfl
    have bac1 := ba.cell (i := 1) rfl
    go_wp2_with fail
    go_ret
    exact ⟨by rw [HC.out]; rfl, hx⟩
  · have b0 : (b == 0) = false := by rw [beq_eq_false_iff_ne]; exact h
    have HH := Lib.hid h
    have HC := Lib.hid (show stext 0 b = [] from stext_bad (sgood_false (by omega)))
    have HS := Lib.hid (show sgood 0 b = false from sgood_false (by omega))
    clear h
    go_enter Tryd.func25, Tryd.ntmps25
    go_wp2_with fail
    have hx : Ext w (w.alloc (.cells #[.int .i64 0, .int .i64 b] 23)) := ext_alloc _ _
    have ba := Blk.new w #[.int .i64 0, .int .i64 b] 23
    refine (refSGood_any 0 b _).mono ?_
    rintro e w1 ⟨rfl, x1⟩
    rw [HS.out]
    replace ba := ba.ext x1
    replace hx := Ext.trans hx x1
    clear x1
    have bac0 := ba.cell (i := 0) rfl
    have bac1 := ba.cell (i := 1) rfl
    go_wp2_with fail
    go_ret
    exact ⟨by rw [HC.out]; rfl, hx⟩
  · have b0 : (a == 0) = false := by rw [beq_eq_false_iff_ne]; omega
    have HC := Lib.hid (show stext a b = [] from stext_bad (sgood_false (by omega)))
    have HS := Lib.hid (show sgood a b = false from sgood_false (by omega))
    go_enter Tryd.func25, Tryd.ntmps25
    go_wp2_with fail
    have hx : Ext w (w.alloc (.cells #[.int .i64 a, .int .i64 b] 23)) := ext_alloc _ _
    have ba := Blk.new w #[.int .i64 a, .int .i64 b] 23
    refine (refSGood_any a b _).mono ?_
    rintro e w1 ⟨rfl, x1⟩
    rw [HS.out]
    replace ba := ba.ext x1
    replace hx := Ext.trans hx x1
    clear x1
    have bac0 := ba.cell (i := 0) rfl
    have bac1 := ba.cell (i := 1) rfl
    go_wp2_with fail
    go_ret
    exact ⟨by rw [HC.out]; rfl, hx⟩
  · have b0 : (a == 0) = false := by rw [beq_eq_false_iff_ne]; omega
    have HC := Lib.hid (show stext a b = [] from stext_bad (sgood_false (by omega)))
    have HS := Lib.hid (show sgood a b = false from sgood_false (by omega))
    go_enter Tryd.func25, Tryd.ntmps25
    go_wp2_with fail
    have hx : Ext w (w.alloc (.cells #[.int .i64 a, .int .i64 b] 23)) := ext_alloc _ _
    have ba := Blk.new w #[.int .i64 a, .int .i64 b] 23
    refine (refSGood_any a b _).mono ?_
    rintro e w1 ⟨rfl, x1⟩
    rw [HS.out]
    replace ba := ba.ext x1
    replace hx := Ext.trans hx x1
    clear x1
    have bac0 := ba.cell (i := 0) rfl
    have bac1 := ba.cell (i := 1) rfl
    go_wp2_with fail
    go_ret
    exact ⟨by rw [HC.out]; rfl, hx⟩
  · obtain ⟨n, rfl⟩ := Int.eq_ofNat_of_zero_le (show 0 ≤ a by omega)
    have b0 : ((n : Int) == 0) = false := by rw [beq_eq_false_iff_ne]; omega
    have hn2 : n ≤ 281474976710656 := by omega
    have hlen := dec_len n hn2
    have hl2 : (decDigits n).length + 1 ≤ 9223372036854775807 := by omega
    have HC := Lib.hid (show stext (n : Int) 1 = decDigits n ++ [97] from stext_good ⟨h1, h2, by omega⟩)
    have HS := Lib.hid (show sgood (n : Int) 1 = true from sgood_true (by omega))
    go_enter Tryd.func25, Tryd.ntmps25
    go_wp2_with fail
    have hx : Ext w (w.alloc (.cells #[.int .i64 (n : Int), .int .i64 1] 23)) := ext_alloc _ _
    have ba := Blk.new w #[.int .i64 (n : Int), .int .i64 1] 23
    refine (refSGood_any (n : Int) 1 _).mono ?_
    rintro e w1 ⟨rfl, x1⟩
    rw [HS.out]
    replace ba := ba.ext x1
    replace hx := Ext.trans hx x1
    clear x1
    have bac0 := ba.cell (i := 0) rfl
    have bac1 := ba.cell (i := 1) rfl
    go_wp2_with fail
    refine (digits_any n _ hn2).mono ?_
    rintro e w2 ⟨rfl, x2⟩
    have q := bs_app (decDigits n) [97]
    unfold strV
    go_wp2_with fail
    go_ret
    exact ⟨by rw [HC.out]; exact congrArg (fun s => Ending.returned (Value.string s)) (bs_app (decDigits n) [97]), Ext.trans hx x2⟩
  · obtain ⟨n, rfl⟩ := Int.eq_ofNat_of_zero_le (show 0 ≤ a by omega)
    have b0 : ((n : Int) == 0) = false := by rw [beq_eq_false_iff_ne]; omega
    have hn2 : n ≤ 281474976710656 := by omega
    have hlen := dec_len n hn2
    have hl2 : (decDigits n).length + 1 ≤ 9223372036854775807 := by omega
    have HC := Lib.hid (show stext (n : Int) 2 = decDigits n ++ [98] from stext_good ⟨h1, h2, by omega⟩)
    have HS := Lib.hid (show sgood (n : Int) 2 = true from sgood_true (by omega))
    go_enter Tryd.func25, Tryd.ntmps25
    go_wp2_with fail
    have hx : Ext w (w.alloc (.cells #[.int .i64 (n : Int), .int .i64 2] 23)) := ext_alloc _ _
    have ba := Blk.new w #[.int .i64 (n : Int), .int .i64 2] 23
    refine (refSGood_any (n : Int) 2 _).mono ?_
    rintro e w1 ⟨rfl, x1⟩
    rw [HS.out]
    replace ba := ba.ext x1
    replace hx := Ext.trans hx x1
    clear x1
    have bac0 := ba.cell (i := 0) rfl
    have bac1 := ba.cell (i := 1) rfl
    go_wp2_with fail
    refine (digits_any n _ hn2).mono ?_
    rintro e w2 ⟨rfl, x2⟩
    have q := bs_app (decDigits n) [98]
    unfold strV
    go_wp2_with fail
    go_ret
    exact ⟨by rw [HC.out]; exact congrArg (fun s => Ending.returned (Value.string s)) (bs_app (decDigits n) [98]), Ext.trans hx x2⟩
  · have b0 : (a == 0) = false := by rw [beq_eq_false_iff_ne]; omega
    have HC := Lib.hid (show stext a b = [] from stext_bad (sgood_false (by omega)))
    have HS := Lib.hid (show sgood a b = false from sgood_false (by omega))
    go_enter Tryd.func25, Tryd.ntmps25
    go_wp2_with fail
    have hx : Ext w (w.alloc (.cells #[.int .i64 a, .int .i64 b] 23)) := ext_alloc _ _
    have ba := Blk.new w #[.int .i64 a, .int .i64 b] 23
    refine (refSGood_any a b _).mono ?_
    rintro e w1 ⟨rfl, x1⟩
    rw [HS.out]
    replace ba := ba.ext x1
    replace hx := Ext.trans hx x1
    clear x1
    have bac0 := ba.cell (i := 0) rfl
    have bac1 := ba.cell (i := 1) rfl
    go_wp2_with fail
    go_ret
    exact ⟨by rw [HC.out]; rfl, hx⟩
set_option maxHeartbeats 2000000 in
set_option maxRecDepth 10000 in
theorem stText_any (a b : Int) (w : World) (hT : Tb w) :
    Calls Tryd.prog 24 #[stV a b] w fun e w' => e = .returned (strV (stext a b)) ∧ Ext w w' := by
  unfold stV
  rcases sgood_cases a b with ⟨rfl, rfl⟩ | ⟨rfl, h⟩ | h | h | ⟨h1, h2, rfl⟩ | ⟨h1, h2, rfl⟩ | ⟨h1, h2, h3, h4⟩
  · have HC := Lib.hid (show stext 0 0 = [45] from stext_zero)
    have HS := Lib.hid (show sgood 0 0 = true from sgood_true (by omega))
    go_enter Tryd.func24, Tryd.ntmps24
    go_wp2_with fail
    have hx : Ext w (w.alloc (.cells #[.int .i64 0, .int .i64 0] 23)) := ext_alloc _ _
    have ba := Blk.new w #[.int .i64 0, .int .i64 0] 23
    go_ret
    exact ⟨by rw [HC.out]; rfl, hx⟩
  · have b0 : (b == 0) = false := by rw [beq_eq_false_iff_ne]; exact h
    have HH := Lib.hid h
    have HC := Lib.hid (show stext 0 b = [] from stext_bad (sgood_false (by omega)))
    have HS := Lib.hid (show sgood 0 b = false from sgood_false (by omega))
    clear h
    go_enter Tryd.func24, Tryd.ntmps24
    go_wp2_with fail
    have hx : Ext w (w.alloc (.cells #[.int .i64 0, .int .i64 b] 23)) := ext_alloc _ _
    have ba := Blk.new w #[.int .i64 0, .int .i64 b] 23
    refine (stGood_any 0 b _).mono ?_
    rintro e w1 ⟨rfl, x1⟩
    rw [HS.out]
    replace ba := ba.ext x1
    replace hx := Ext.trans hx x1
    clear x1
    have bac0 := ba.cell (i := 0) rfl
    have bac1 := ba.cell (i := 1) rfl
    go_wp2_with fail
    go_ret
    exact ⟨by rw [HC.out]; rfl, hx⟩
  · have b0 : (a == 0) = false := by rw [beq_eq_false_iff_ne]; omega
    have HC := Lib.hid (show stext a b = [] from stext_bad (sgood_false (by omega)))
    have HS := Lib.hid (show sgood a b = false from sgood_false (by omega))
    go_enter Tryd.func24, Tryd.ntmps24
    go_wp2_with fail
    have hx : Ext w (w.alloc (.cells #[.int .i64 a, .int .i64 b] 23)) := ext_alloc _ _
    have ba := Blk.new w #[.int .i64 a, .int .i64 b] 23
    refine (stGood_any a b _).mono ?_
    rintro e w1 ⟨rfl, x1⟩
    rw [HS.out]
    replace ba := ba.ext x1
    replace hx := Ext.trans hx x1
    clear x1
    have bac0 := ba.cell (i := 0) rfl
    have bac1 := ba.cell (i := 1) rfl
    go_wp2_with fail
    go_ret
    exact ⟨by rw [HC.out]; rfl, hx⟩
  · have b0 : (a == 0) = false := by rw [beq_eq_false_iff_ne]; omega
    have HC := Lib.hid (show stext a b = [] from stext_bad (sgood_false (by omega)))
    have HS := Lib.hid (show sgood a b = false from sgood_false (by omega))
    go_enter Tryd.func24, Tryd.ntmps24
    go_wp2_with fail
    have hx : Ext w (w.alloc (.cells #[.int .i64 a, .int .i64 b] 23)) := ext_alloc _ _
    have ba := Blk.new w #[.int .i64 a, .int .i64 b] 23
    refine (stGood_any a b _).mono ?_
    rintro e w1 ⟨rfl, x1⟩
    rw [HS.out]
    replace ba := ba.ext x1
    replace hx := Ext.trans hx x1
    clear x1
    have bac0 := ba.cell (i := 0) rfl
    have bac1 := ba.cell (i := 1) rfl
    go_wp2_with fail
    go_ret
    exact ⟨by rw [HC.out]; rfl, hx⟩
  · obtain ⟨n, rfl⟩ := Int.eq_ofNat_of_zero_le (show 0 ≤ a by omega)
    have b0 : ((n : Int) == 0) = false := by rw [beq_eq_false_iff_ne]; omega
    have hn2 : n ≤ 281474976710656 := by omega
    have hlen := dec_len n hn2
    have hl2 : (decDigits n).length + 1 ≤ 9223372036854775807 := by omega
    have HC := Lib.hid (show stext (n : Int) 1 = decDigits n ++ [97] from stext_good ⟨h1, h2, by omega⟩)
    have HS := Lib.hid (show sgood (n : Int) 1 = true from sgood_true (by omega))
    go_enter Tryd.func24, Tryd.ntmps24
    go_wp2_with fail
    have hx : Ext w (w.alloc (.cells #[.int .i64 (n : Int), .int .i64 1] 23)) := ext_alloc _ _
    have ba := Blk.new w #[.int .i64 (n : Int), .int .i64 1] 23
    refine (stGood_any (n : Int) 1 _).mono ?_
    rintro e w1 ⟨rfl, x1⟩
    rw [HS.out]
    replace ba := ba.ext x1
    replace hx := Ext.trans hx x1
    clear x1
    have bac0 := ba.cell (i := 0) rfl
    have bac1 := ba.cell (i := 1) rfl
    go_wp2_with fail
    replace hT := hT.ext hx
    refine wp_region_mono (by kernel_rfl) (by kernel_rfl) ?_
    refine tele_val rfl (.pointer (some ⟨w.heap.size, 0, none⟩)) (fun _ _ _ => rfl) ?_ ?_
    · rintro ρ w' he ⟨h1, -⟩
      have e1 : ρ 1 = (.pointer (some ⟨w.heap.size, 0, none⟩)) := h1
      simp [execOp, evR, e1, go_sem]
    refine tele_val rfl (.int .i64 (n : Int)) (fun _ _ _ => rfl) ?_ ?_
    · rintro ρ w' he ⟨h11, -⟩
      have e11 : ρ 11 = (.pointer (some ⟨w.heap.size, 0, none⟩)) := h11
      have c := (ba.ext he).cell (i := 0) rfl
      simp [execOp, evR, e11, c, go_sem]
    refine tele_call rfl rfl Tryd.func33 (by kernel_rfl) (isV (strV (decDigits n))) (fun _ _ _ => rfl) ?_ ?_
    · rintro ρ w' he ⟨h12, -⟩
      have e12 : ρ 12 = (.int .i64 (n : Int)) := h12
      simp only [evR, List.map_toArray, List.map_cons, List.map_nil, e12]
      refine (itoa_any n _ hn2 (hT.ext he)).mono ?_
      rintro e w'' ⟨rfl, he⟩
      exact ⟨_, rfl, he, rfl⟩
    refine tele_val rfl (.pointer (some ⟨w.heap.size, 1, none⟩)) (fun _ _ _ => rfl) ?_ ?_
    · rintro ρ w' he ⟨h1, -⟩
      have e1 : ρ 1 = (.pointer (some ⟨w.heap.size, 0, none⟩)) := h1
      simp [execOp, evR, e1, go_sem]
    refine tele_val rfl (.int .i64 1) (fun _ _ _ => rfl) ?_ ?_
    · rintro ρ w' he ⟨h14, -⟩
      have e14 : ρ 14 = (.pointer (some ⟨w.heap.size, 1, none⟩)) := h14
      have c := (ba.ext he).cell (i := 1) rfl
      simp [execOp, evR, e14, c, go_sem]
    refine tele_val rfl (.int .i64 0) (fun _ _ _ => rfl) ?_ ?_
    · rintro ρ w' he ⟨h15, -⟩
      have e15 : ρ 15 = (.int .i64 1) := h15
      simp [execOp, evR, e15, go_sem]
      try rfl
    refine tele_val rfl (.pointer (some ⟨w.heap.size, 1, none⟩)) (fun _ _ _ => rfl) ?_ ?_
    · rintro ρ w' he ⟨h1, -⟩
      have e1 : ρ 1 = (.pointer (some ⟨w.heap.size, 0, none⟩)) := h1
      simp [execOp, evR, e1, go_sem]
    refine tele_val rfl (.int .i64 1) (fun _ _ _ => rfl) ?_ ?_
    · rintro ρ w' he ⟨h17, -⟩
      have e17 : ρ 17 = (.pointer (some ⟨w.heap.size, 1, none⟩)) := h17
      have c := (ba.ext he).cell (i := 1) rfl
      simp [execOp, evR, e17, c, go_sem]
    refine tele_val rfl (.string ⟨#[97]⟩) (fun _ _ _ => rfl) ?_ ?_
    · rintro ρ w' he ⟨h16, h18, -⟩
      have e16 : ρ 16 = (.int .i64 0) := h16
      have e18 : ρ 18 = (.int .i64 1) := h18
      simp [execOp, evR, e16, e18, run_sliceAt_string (h := Tryd.underlying9), go_sem]
      rfl
    refine tele_val rfl (strV (decDigits n ++ [97])) (fun _ _ _ => rfl) ?_ ?_
    · rintro ρ w' he ⟨h13, h19, -⟩
      have e13 : ρ 13 = (strV (decDigits n)) := h13
      have e19 : ρ 19 = (.string ⟨#[97]⟩) := h19
      have q := bs_app (decDigits n) [97]
      unfold strV at e13
      simp [execOp, evR, e13, e19, strV, q, hl2, go_sem]
    refine tele_move rfl (.inr rfl) rfl (isV (strV (decDigits n ++ [97]))) (fun ρ w' h => h) ?_
    refine tele_nil ?_
    rintro ρ w' hext ⟨f2, f20, f19, f18, f17, f16, f15, f14, f13, f12, f11, -⟩
    replace f11 : ρ 11 = (.pointer (some ⟨w.heap.size, 0, none⟩)) := f11
    replace f12 : ρ 12 = (.int .i64 (n : Int)) := f12
    replace f13 : ρ 13 = (strV (decDigits n)) := f13
    replace f14 : ρ 14 = (.pointer (some ⟨w.heap.size, 1, none⟩)) := f14
    replace f15 : ρ 15 = (.int .i64 1) := f15
    replace f16 : ρ 16 = (.int .i64 0) := f16
    replace f17 : ρ 17 = (.pointer (some ⟨w.heap.size, 1, none⟩)) := f17
    replace f18 : ρ 18 = (.int .i64 1) := f18
    replace f19 : ρ 19 = (.string ⟨#[97]⟩) := f19
    replace f20 : ρ 20 = (strV (decDigits n ++ [97])) := f20
    replace f2 : ρ 2 = (strV (decDigits n ++ [97])) := f2
    simp only [puts, Act.put, List.setIfInBounds_toArray, List.set_cons_zero, List.set_cons_succ]
    rw [f2]
    go_wp2_with fail
    go_ret
    exact ⟨by rw [HC.out]; rfl, Ext.trans hx hext⟩
  · obtain ⟨n, rfl⟩ := Int.eq_ofNat_of_zero_le (show 0 ≤ a by omega)
    have b0 : ((n : Int) == 0) = false := by rw [beq_eq_false_iff_ne]; omega
    have hn2 : n ≤ 281474976710656 := by omega
    have hlen := dec_len n hn2
    have hl2 : (decDigits n).length + 1 ≤ 9223372036854775807 := by omega
    have HC := Lib.hid (show stext (n : Int) 2 = decDigits n ++ [98] from stext_good ⟨h1, h2, by omega⟩)
    have HS := Lib.hid (show sgood (n : Int) 2 = true from sgood_true (by omega))
    go_enter Tryd.func24, Tryd.ntmps24
    go_wp2_with fail
    have hx : Ext w (w.alloc (.cells #[.int .i64 (n : Int), .int .i64 2] 23)) := ext_alloc _ _
    have ba := Blk.new w #[.int .i64 (n : Int), .int .i64 2] 23
    refine (stGood_any (n : Int) 2 _).mono ?_
    rintro e w1 ⟨rfl, x1⟩
    rw [HS.out]
    replace ba := ba.ext x1
    replace hx := Ext.trans hx x1
    clear x1
    have bac0 := ba.cell (i := 0) rfl
    have bac1 := ba.cell (i := 1) rfl
    go_wp2_with fail
    replace hT := hT.ext hx
    refine wp_region_mono (by kernel_rfl) (by kernel_rfl) ?_
    refine tele_val rfl (.pointer (some ⟨w.heap.size, 0, none⟩)) (fun _ _ _ => rfl) ?_ ?_
    · rintro ρ w' he ⟨h1, -⟩
      have e1 : ρ 1 = (.pointer (some ⟨w.heap.size, 0, none⟩)) := h1
      simp [execOp, evR, e1, go_sem]
    refine tele_val rfl (.int .i64 (n : Int)) (fun _ _ _ => rfl) ?_ ?_
    · rintro ρ w' he ⟨h11, -⟩
      have e11 : ρ 11 = (.pointer (some ⟨w.heap.size, 0, none⟩)) := h11
      have c := (ba.ext he).cell (i := 0) rfl
      simp [execOp, evR, e11, c, go_sem]
    refine tele_call rfl rfl Tryd.func33 (by kernel_rfl) (isV (strV (decDigits n))) (fun _ _ _ => rfl) ?_ ?_
    · rintro ρ w' he ⟨h12, -⟩
      have e12 : ρ 12 = (.int .i64 (n : Int)) := h12
      simp only [evR, List.map_toArray, List.map_cons, List.map_nil, e12]
      refine (itoa_any n _ hn2 (hT.ext he)).mono ?_
      rintro e w'' ⟨rfl, he⟩
      exact ⟨_, rfl, he, rfl⟩
    refine tele_val rfl (.pointer (some ⟨w.heap.size, 1, none⟩)) (fun _ _ _ => rfl) ?_ ?_
    · rintro ρ w' he ⟨h1, -⟩
      have e1 : ρ 1 = (.pointer (some ⟨w.heap.size, 0, none⟩)) := h1
      simp [execOp, evR, e1, go_sem]
    refine tele_val rfl (.int .i64 2) (fun _ _ _ => rfl) ?_ ?_
    · rintro ρ w' he ⟨h14, -⟩
      have e14 : ρ 14 = (.pointer (some ⟨w.heap.size, 1, none⟩)) := h14
      have c := (ba.ext he).cell (i := 1) rfl
      simp [execOp, evR, e14, c, go_sem]
    refine tele_val rfl (.int .i64 1) (fun _ _ _ => rfl) ?_ ?_
    · rintro ρ w' he ⟨h15, -⟩
      have e15 : ρ 15 = (.int .i64 2) := h15
      simp [execOp, evR, e15, go_sem]
      rfl
    refine tele_val rfl (.pointer (some ⟨w.heap.size, 1, none⟩)) (fun _ _ _ => rfl) ?_ ?_
    · rintro ρ w' he ⟨h1, -⟩
      have e1 : ρ 1 = (.pointer (some ⟨w.heap.size, 0, none⟩)) := h1
      simp [execOp, evR, e1, go_sem]
    refine tele_val rfl (.int .i64 2) (fun _ _ _ => rfl) ?_ ?_
    · rintro ρ w' he ⟨h17, -⟩
      have e17 : ρ 17 = (.pointer (some ⟨w.heap.size, 1, none⟩)) := h17
      have c := (ba.ext he).cell (i := 1) rfl
      simp [execOp, evR, e17, c, go_sem]
    refine tele_val rfl (.string ⟨#[98]⟩) (fun _ _ _ => rfl) ?_ ?_
    · rintro ρ w' he ⟨h16, h18, -⟩
      have e16 : ρ 16 = (.int .i64 1) := h16
      have e18 : ρ 18 = (.int .i64 2) := h18
      simp [execOp, evR, e16, e18, run_sliceAt_string (h := Tryd.underlying9), go_sem]
      rfl
    refine tele_val rfl (strV (decDigits n ++ [98])) (fun _ _ _ => rfl) ?_ ?_
    · rintro ρ w' he ⟨h13, h19, -⟩
      have e13 : ρ 13 = (strV (decDigits n)) := h13
      have e19 : ρ 19 = (.string ⟨#[98]⟩) := h19
      have q := bs_app (decDigits n) [98]
      unfold strV at e13
      simp [execOp, evR, e13, e19, strV, q, hl2, go_sem]
    refine tele_move rfl (.inr rfl) rfl (isV (strV (decDigits n ++ [98]))) (fun ρ w' h => h) ?_
    refine tele_nil ?_
    rintro ρ w' hext ⟨f2, f20, f19, f18, f17, f16, f15, f14, f13, f12, f11, -⟩
    replace f11 : ρ 11 = (.pointer (some ⟨w.heap.size, 0, none⟩)) := f11
    replace f12 : ρ 12 = (.int .i64 (n : Int)) := f12
    replace f13 : ρ 13 = (strV (decDigits n)) := f13
    replace f14 : ρ 14 = (.pointer (some ⟨w.heap.size, 1, none⟩)) := f14
    replace f15 : ρ 15 = (.int .i64 2) := f15
    replace f16 : ρ 16 = (.int .i64 1) := f16
    replace f17 : ρ 17 = (.pointer (some ⟨w.heap.size, 1, none⟩)) := f17
    replace f18 : ρ 18 = (.int .i64 2) := f18
    replace f19 : ρ 19 = (.string ⟨#[98]⟩) := f19
    replace f20 : ρ 20 = (strV (decDigits n ++ [98])) := f20
    replace f2 : ρ 2 = (strV (decDigits n ++ [98])) := f2
    simp only [puts, Act.put, List.setIfInBounds_toArray, List.set_cons_zero, List.set_cons_succ]
    rw [f2]
    go_wp2_with fail
    go_ret
    exact ⟨by rw [HC.out]; rfl, Ext.trans hx hext⟩
  · have b0 : (a == 0) = false := by rw [beq_eq_false_iff_ne]; omega
    have HC := Lib.hid (show stext a b = [] from stext_bad (sgood_false (by omega)))
    have HS := Lib.hid (show sgood a b = false from sgood_false (by omega))
    go_enter Tryd.func24, Tryd.ntmps24
    go_wp2_with fail
    have hx : Ext w (w.alloc (.cells #[.int .i64 a, .int .i64 b] 23)) := ext_alloc _ _
    have ba := Blk.new w #[.int .i64 a, .int .i64 b] 23
    refine (stGood_any a b _).mono ?_
    rintro e w1 ⟨rfl, x1⟩
    rw [HS.out]
    replace ba := ba.ext x1
    replace hx := Ext.trans hx x1
    clear x1
    have bac0 := ba.cell (i := 0) rfl
    have bac1 := ba.cell (i := 1) rfl
    go_wp2_with fail
    go_ret
    exact ⟨by rw [HC.out]; rfl, hx⟩
end Go.Proofs.YtnjnbjcibdeihaaDoor
