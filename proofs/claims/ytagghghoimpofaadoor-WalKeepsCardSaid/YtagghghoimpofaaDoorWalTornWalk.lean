/-
  Layer 16: the walk of WalTorn.
-/
import Derived.Test.YtagghghoimpofaaDoorWalLives
import Derived.Test.YtagghghoimpofaaDoorWalRows
namespace Go.Proofs.YtagghghoimpofaaDoor
open Go Go.RowKit Mono
set_option linter.unusedVariables false
set_option linter.unusedSimpArgs false
set_option maxRecDepth 100000
set_option maxHeartbeats 4000000

theorem bssO_get {w : World} {z : Nat} {v : Value} {ls : List (List UInt8)} (h : BssO w z v ls) {i : Nat} {l : List UInt8} (hi : ls[i]? = some l) : ∃ g c u, v = .slice (some ⟨g, 0, none⟩) ls.length c ∧ w.cell? ⟨g, i, none⟩ = some u ∧ Bs w u l := by
  obtain ⟨vs, h1, h2⟩ := h
  have hl := h2.length
  have hil := (List.getElem?_eq_some_iff.1 hi).1
  rcases Ow.form (e := 28) h1 with ⟨_, he⟩ | ⟨g, cap, e1, _, _, _, _, e6, _⟩
  · rw [he] at hl
    simp at hl
    omega
  · have hv : vs[i]? = some (vs[i]'(by omega)) := List.getElem?_eq_getElem (by omega)
    exact ⟨g, cap, _, by rw [← hl]; exact e1, e6 i _ hv, (h2.get i _ _ hv hi).bs⟩
/-- A call of Open, with what it leaves, where nothing fails. -/
theorem OpenQ.some_ {W0 W : World} {bd bm pl : Nat} {d : Dk} {ms : List FilM} {size : Int} {e : Ending} {w' : World} {d' : Dk} {l : Lg} {r : List (List UInt8)} (hq : OpenQ W0 W bd bm pl d ms size e w') (h : wOpen d size = ⟨d', some l, r, 0⟩) :
    ∃ pl' ms' bl va v, e = .returned (.tuple #[.pointer (some ⟨bl, 0, none⟩), va, .int .i64 0]) ∧ Cx W0 w' bd bl bm pl' d' ms' v l ∧ Cont (dall bd bm pl d ms) W (cfp bd bl bm pl' d' ms' v) w' ∧ BssF w' W.heap.size va r (cfp bd bl bm pl' d' ms' v) := by
  obtain ⟨pl', ms', hq⟩ := hq
  rw [h] at hq
  obtain ⟨bl, va, v, h1, h2, h3, h4⟩ := hq
  exact ⟨pl', ms', bl, va, v, h1, h2, h3, h4⟩
theorem two_bytesW (W : World) (a b : UInt8) : Bs (W.alloc (.cells #[.int .u8 (a.toNat : Int), .int .u8 (b.toNat : Int)] 5 (2, 3))) (.slice (some ⟨W.heap.size, 0, none⟩) 2 2) [a, b] :=
  Sl.alloc_ W 5 (2, 3) (by simp [bv]) (by simp) (Nat.le_refl _) (by decide)
theorem ints_row (W : World) : (W.alloc (.cells #[.int .i64 0] 3)).ownsRow W.heap.size 3 1 (.slice (some ⟨W.heap.size, 0, none⟩) 1 1) 1 [.int .i64 0] :=
  World.ownsRow_lit (size := 1) (e := 3) W #[.int .i64 0] 1 (Nat.le_refl _) (by decide) (by simp)
/-- Behind the cut: the files, the log. -/
def TornQ (W0 : World) (e : Ending) (w' : World) : Prop := e = .returned (.bool true) ∧ Ext W0 w'
set_option maxHeartbeats 8000000 in
theorem walTorn_walk (v : Value) (ls : List (List UInt8)) (y : Int) (vt : Value) (tl : List UInt8) (W : World) (hT : TbW W) (hv : Bss W v ls) (ht : Bs W vt tl) :
    Calls Tryd.prog 4 #[v, .int .i64 y, vt] W fun e w' => e = .returned (.bool true) ∧ Ext W w' := by
  obtain ⟨A, c, rfl, h1, h2, h3, h4⟩ := hv.open_
  obtain ⟨At, ct, rfl, q1, q2, q3, q4⟩ := ht.open_
  unfold maxLen at h2 q2
  have hlm : ls.length ≤ 9223372036854775807 := by omega
  have htm : tl.length ≤ 9223372036854775807 := by omega
  have HV := Lib.hid hv
  have HTL := Lib.hid ht
  have HT := Lib.hid hT
  have H4 := Lib.hid h4
  have HLV := Lib.hid (fun w (h : Ext W w) => wlives_any w (hT.ext h))
  obtain ⟨i0, hi, hz0, hz1, hz2⟩ := info_parts infoIn
  have HI := Lib.hid hi
  have HZ0 := Lib.hid hz0
  have HZ1 := Lib.hid hz1
  have HZ2 := Lib.hid hz2
  have HR0 := Lib.hid (ints_row W)
  clear hi hz0 hz1 hz2 h1 h2 h3 h4 q1 q2 q3 q4 hv ht hT
  go_enter Tryd.func4, Tryd.ntmps4
  go_wp2_with fail
  go_loopw [7, 8, 30] (fun all ends i wr => ∃ k : Nat, k ≤ ls.length ∧ i = .int .i64 k ∧ OwB wr W.heap.size all (allOf (ls.take k)) ∧ (allOf (ls.take k)).length ≤ 10100 ∧ (0 < k → ls.length ≤ 60) ∧ (∃ es : List Value, es.length = k + 1 ∧ wr.ownsRow W.heap.size 3 1 ends es.length es) ∧ (∀ x ∈ ls.take k, x.length ≤ 5000) ∧ Ext W wr) (fun _ _ i _ => ls.length - (intOf i).toNat)
  case atStart => exact ⟨0, Nat.zero_le _, rfl, OwB.nil_ _ _, by simp [allOf], fun h => absurd h (by decide), ⟨[.int .i64 0], rfl, HR0.out⟩, (fun x hx => by simp at hx), ext_alloc _ _⟩
  case round =>
    obtain ⟨k, hk, rfl, hwa, hal, hk60, ⟨es, hes, hrow⟩, hsm, hx⟩ := hrel
    have HWA := Lib.hid hwa
    have HX := Lib.hid hx
    have HSM := Lib.hid hsm
    have HK60 := Lib.hid hk60
    clear hx hsm hk60
    by_cases hlt : k < ls.length
    · have hk1 : (k : Int) < (ls.length : Int) := by omega
      obtain ⟨ba, oa, rfl, hba, hca⟩ := H4.out (by omega)
      have hget : ls[k]? = some ls[k] := List.getElem?_eq_getElem hlt
      obtain ⟨xa, xca, hxa⟩ := hca k ls[k] hget
      have HS := Lib.hid (show allOf (ls.take (k + 1)) = allOf (ls.take k) ++ wrap ls[k] by rw [List.take_add_one, hget, Option.toList_some, allOf_snoc])
      have HTK := Lib.hid (show ls.take (k + 1) = ls.take k ++ [ls[k]] by rw [List.take_add_one, hget]; rfl)
      replace xca := (HX.out.cell (p := ⟨ba, oa + k, none⟩) hba).trans xca
      replace hxa := hxa.ext HX.out
      clear hget hca
      generalize ls[k] = x at *
      obtain ⟨A2, c2, rfl, _, hc2, _, _⟩ := hxa.open_
      have hx9 : x.length ≤ 9223372036854775807 := by unfold maxLen at hc2; omega
      clear hc2
      obtain ⟨Aa, ca, rfl, _, _, _, _⟩ := hwa.bs.open_
      have HXA := Lib.hid hxa
      obtain ⟨na, hna⟩ : ∃ n, n = (allOf (ls.take k)).length := ⟨_, rfl⟩
      have HNA := Lib.hid hna
      have hal2 : na ≤ 10100 := by rw [hna]; exact hal
      rw [← hna] at HWA hwa ⊢
      have hlb : (60 : Int) < (ls.length : Int) ∨ (5000 : Int) < (x.length : Int) ∨ (5000 : Int) < (na : Int) ∨ (¬ (60 : Int) < (ls.length : Int) ∧ ¬ (5000 : Int) < (x.length : Int) ∧ ¬ (5000 : Int) < (na : Int)) := by omega
      have HLW := Lib.hid (HLV.out wr HX.out)
      clear hxa hna hal hwa
      rcases hlb with hb | hrest
      · go_wp2_with fail
        refine HLW.out.mono ?_
        rintro e w1 ⟨rfl, hx1⟩
        go_wp2_with fail
        go_ret
        exact ⟨rfl, HX.out.trans hx1⟩
      by_cases hb60 : (60 : Int) < (ls.length : Int)
      · go_wp2_with fail
        refine HLW.out.mono ?_
        rintro e w1 ⟨rfl, hx1⟩
        go_wp2_with fail
        go_ret
        exact ⟨rfl, HX.out.trans hx1⟩
      rcases hrest with hb | hrest
      · go_wp2_with fail
        refine HLW.out.mono ?_
        rintro e w1 ⟨rfl, hx1⟩
        go_wp2_with fail
        go_ret
        exact ⟨rfl, HX.out.trans hx1⟩
      by_cases hb50 : (5000 : Int) < (x.length : Int)
      · go_wp2_with fail
        refine HLW.out.mono ?_
        rintro e w1 ⟨rfl, hx1⟩
        go_wp2_with fail
        go_ret
        exact ⟨rfl, HX.out.trans hx1⟩
      rcases hrest with hb | ⟨-, -, hn50⟩
      · go_wp2_with fail
        refine HLW.out.mono ?_
        rintro e w1 ⟨rfl, hx1⟩
        go_wp2_with fail
        go_ret
        exact ⟨rfl, HX.out.trans hx1⟩
      have HB60 := Lib.hid hb60
      have HB50 := Lib.hid hb50
      have HN50 := Lib.hid hn50
      have HRW := Lib.hid (rWrap_any _ x _ HXA.out)
      go_wp2_with fail
      refine HRW.out.mono ?_
      rintro e w1 ⟨r1, rfl, k1, x1⟩
      have hx1 := HX.out.trans x1
      have hwl := wrap_len x
      have hwa1 := HWA.out.ext x1
      have hrow1 := row_keptT hrow (Kb.of_ext (fp := fun _ => False) x1) (fun _ _ _ _ h => h.elim)
      have HSZ := Lib.hid hx1.size
      have hlen1 : (allOf (ls.take k)).length + (wrap x).length ≤ 10100 := by have := HNA.out; have := HN50.out; have := HB50.out; omega
      have HKL := Lib.hid hlt
      clear hrow hlt hk1
      go_wp2_with (first
        | (at_builtin; refine wpList_append_bs _ rfl (.tmp 48) (.tmp 50) rfl hwa1 k1.bs rfl rfl (by omega) hx1.size ?_; intro v2 w2 hown2 hg2 hat2; have hb2 : Ext W w2 := Below.growB hx1 hwa1 hg2 (Nat.le_refl _) hx1.size; have hrow2 := row_keptT hrow1 (Kb.grown_ (fp := fun k => (Value.slice Aa na ca).ownBlock = some k) hg2 (fun _ h => h)) (fun j C T fz hq hb => by obtain ⟨cur, fz2, hb3⟩ := hwa1.type hq; rw [hb3] at hb; injection hb with hb; injection hb with _ hb _; rw [← hb]; decide); rw [← HS.out] at hown2; obtain ⟨A3, c3, rfl, _, _, _, _⟩ := hown2.bs.open_)
        | (at_builtin; refine wpList_append_own _ rfl (.tmp 52) (.tmp 55) 29 rfl W.heap.size 3 i0 (.int .i64 0) 1 8 Tryd.underlying29 HI.out HZ0.out HZ1.out HZ2.out rfl (by decide) _ _ _ rfl (hrow2.alloc _) ⟨w2.heap.size, 0, none⟩ 1 1 [.int .i64 ((allOf (ls.take (k + 1))).length : Int)] rfl rfl (cell_one_new _ _ _) (by simp [Value.oneCell']) (by unfold maxLen; have := HB60.out; omega) (by have := HB60.out; omega) (by have := hb2.size; simp; omega) ?_; intro v3 w3 hown3 hg3 hnil3; have hb3 : Ext W w3 := grown_ext4 (hb2.trans (ext_alloc _ _)) (hrow2.alloc _) (Nat.le_refl _) hg3; have hown4 := row_keptT (hown2.ext (ext_alloc w2 (.cells #[.int .i64 ((allOf (ls.take (k + 1))).length : Int)] 3))) (Kb.grown_ (fp := fun k => u8.ownBlock = some k) hg3 (fun _ h => h)) (fun j C T fz hq hb => by obtain ⟨cur, hb3⟩ := row_type (hrow2.alloc _) hq; rw [hb3] at hb; injection hb with hb; injection hb with _ hb _; rw [← hb]; decide))
        | go_in)
      go_roundw
      case rel => exact ⟨k + 1, HKL.out, by go_num, hown4, by rw [HS.out, List.length_append]; exact hlen1, fun _ => by have := HB60.out; omega, ⟨es ++ [.int .i64 ((allOf (ls.take (k + 1))).length : Int)], by simp [hes], by simpa using hown3⟩, (fun z hz => by rw [HTK.out] at hz; rcases List.mem_append.1 hz with hz | hz; exact HSM.out z hz; rw [List.mem_singleton.1 hz]; have := HB50.out; omega), hb3⟩
      case measure => have := HKL.out; simp [intOf]; omega
    · obtain rfl : k = ls.length := by omega
      have hk1 : ¬ ((ls.length : Nat) : Int) < (ls.length : Int) := by omega
      rw [List.take_length] at HWA hal HSM
      obtain ⟨Aa, ca, rfl, _, hca, _, _⟩ := HWA.out.bs.open_
      obtain ⟨na, hna⟩ : ∃ n, n = (allOf ls).length := ⟨_, rfl⟩
      have HNA := Lib.hid hna
      have hal2 : na ≤ 10100 := by rw [hna]; exact hal
      rw [← hna] at HWA ⊢
      have hca2 : na ≤ ca := by rw [hna]; assumption
      have hca3 : ca ≤ 9223372036854775807 := by unfold maxLen at hca; omega
      obtain ⟨q, hq, hqe⟩ := place_int y na (by omega)
      have HLW := Lib.hid (HLV.out wr HX.out)
      clear hna hal hca hrow hes hlt hwa
      by_cases htl : (1000 : Int) < (tl.length : Int)
      · go_wp2_with fail
        refine HLW.out.mono ?_
        rintro e w1 ⟨rfl, hx1⟩
        go_wp2_with fail
        go_ret
        exact ⟨rfl, HX.out.trans hx1⟩
      have HUP := Lib.hid (HWA.out.bs.upto hq)
      have hq0 : ¬ (q : Int) < 0 := by omega
      have hq1 : (q : Int) ≤ (ca : Int) := by omega
      have hqn : (q : Int) ≤ (na : Int) := by omega
      have HQ := Lib.hid hq
      have HTLL := Lib.hid htl
      have HAL2 := Lib.hid hal2
      clear hq
      go_wp2_with (first
        | (at_builtin; refine wpList_append_bs _ rfl (.tmp 70) (.tmp 73) rfl (OwB.empty_ wr (Nat.le_refl _)) (HUP.out.ext (ext_alloc _ _)) rfl rfl (by have := HQ.out; have := HAL2.out; simp; omega) (by simp) ?_; intro v1 w1 hown1 hg1 hat1; have hb1 : Ext wr w1 := Below.growB (ext_alloc wr _) (OwB.empty_ wr (Nat.le_refl _)) hg1 (Nat.le_refl _) (by simp))
        | (at_builtin; refine wpList_append_bs _ rfl (.tmp 74) (.tmp 75) rfl hown1 (HTL.out.ext (HX.out.trans hb1)) rfl rfl (by have := HQ.out; have := HAL2.out; have := HTLL.out; simp; omega) hb1.size ?_; intro v2 w2 hown2 hg2 hat2; have hb2 : Ext wr w2 := Below.growB hb1 hown1 hg2 (Nat.le_refl _) hb1.size)
        | fail)
      obtain ⟨b, hbd⟩ : ∃ b, b = ([] ++ (allOf ls).take q ++ tl : List UInt8) := ⟨_, rfl⟩
      rw [← hbd] at hown2
      have hbl : b.length ≤ 20000 := by rw [hbd]; have := HQ.out; have := HAL2.out; have := HTLL.out; simp; omega
      have HX2 := Lib.hid (HX.out.trans hb2)
      have HBB := Lib.hid hown2.bs
      have HRR := Lib.hid (rRows_any _ b w2 hown2.bs (by omega))
      obtain ⟨A2, c2, rfl, _, _, _, _⟩ := hown2.bs.open_
      obtain ⟨d1, d2, d3, l1, d4, l2, d5, l3, d6, l4, t1, t2, t3, t4, t5, t6, t7, t8, t9⟩ := torn_plain b (by omega)
      have hrl := frows_len b
      obtain ⟨rows, hrows⟩ : ∃ r, r = (frows b).1 := ⟨_, rfl⟩
      obtain ⟨nn, hnn⟩ : ∃ r, r = (frows b).2.1 := ⟨_, rfl⟩
      obtain ⟨lb, hlb⟩ : ∃ r, r = b.length := ⟨_, rfl⟩
      rw [← hrows] at t3 t6 t7 t9 HRR hrl
      rw [← hnn] at t4 HRR hrl
      rw [← hlb] at hbl hrl HRR HBB ⊢
      have T1 := Lib.hid t1
      have T2 := Lib.hid t2
      have T3 := Lib.hid t3
      have T4 := Lib.hid t4
      have T5 := Lib.hid t5
      have T6 := Lib.hid t6
      have T7 := Lib.hid t7
      have T8 := Lib.hid t8
      have T9 := Lib.hid t9
      have HRL := Lib.hid hrl
      have HBL := Lib.hid hbl
      have HTB := Lib.hid (show (b.take nn).length = nn by rw [List.length_take, ← hlb]; omega)
      have HOK1 := Lib.hid (show d1.Ok by have := dMake_ok (fresh_ok (room := 1048576) (by decide)) nm7; rw [t1] at this; exact this)
      have HOK2 := Lib.hid (show d2.Ok by have := dAppend_ok HOK1.out nm7 b; rw [t2] at this; exact this)
      have HOK3 := Lib.hid (show d3.Ok by have := wOpen_ok HOK2.out 1000; rw [t3] at this; exact this)
      have HOK4 := Lib.hid (show d4.Ok by have := wAppend_ok HOK3.out l1 onB; rw [t7] at this; exact this)
      have HOK5 := Lib.hid (show d5.Ok by have := wSync_ok HOK4.out l2; rw [t8] at this; exact this)
      have HSM1 := Lib.hid (show d1.SmallC 1 by have := (fresh_small 1048576).grow (dMake_grow _ nm7); rw [t1] at this; exact this)
      have HSM2 := Lib.hid (show d2.SmallC 2 by have := HSM1.out.grow (dAppend_grow _ nm7 b); rw [t2] at this; exact this)
      have HSM3 := Lib.hid (show d3.SmallC 4 by have := wOpen_small HSM2.out 1000; rw [t3] at this; exact this)
      have HSM4 := Lib.hid (show d4.SmallC 7 by have := wAppend_small HSM3.out l1 onB; rw [t7] at this; exact this)
      have HSM5 := Lib.hid (show d5.SmallC 8 by have := wSync_small HSM4.out l2; rw [t8] at this; exact this)
      have HL1 := Lib.hid (wOpen_lok HOK2.out 1000 (l := l1) (by rw [t3]))
      have HL2 := Lib.hid (show LOk 2 l2 by have := wAppend_lok (d := d3) (rec := onB) HL1.out; rw [t7] at this; exact this)
      clear hk1 t1 t2 t3 t4 t5 t6 t7 t8 t9 hrl hown1 hown2 hg1 hg2 hat1 hat2 hb1 hb2 hbd hrows hnn hlb hbl hq0 hq1 hqn hqe hca2 hca3 hal2 htl
      refine HRR.out.mono ?_
      rintro e w3 ⟨vr, rfl, hbr, hx3⟩
      obtain ⟨Ar, cr, rfl, _, _, _, _⟩ := hbr.open_
      have HX3 := Lib.hid (HX2.out.trans hx3)
      have HBR := Lib.hid hbr
      replace HBB := Lib.hid (HBB.out.ext hx3)
      have HDN := Lib.hid (dkNew_any 1048576 w3 (by decide))
      clear hx3 hbr HRR
      go_wp2_with fail
      refine HDN.out.mono ?_
      rintro e w4 ⟨rfl, hx4, hd4⟩
      have HT3 := Lib.hid (HT.out.ext HX3.out)
      have HY4 := Lib.hid hx4
      have HD4 := Lib.hid hd4
      obtain ⟨bd, hbd⟩ : ∃ b, b = w3.heap.size + 1 := ⟨_, rfl⟩
      obtain ⟨bm, hbm⟩ : ∃ b, b = w3.heap.size := ⟨_, rfl⟩
      have HZB := Lib.hid (show w3.heap.size ≤ bm by rw [hbm]; exact Nat.le_refl _)
      rw [← hbd] at HD4
      rw [← hbd]
      have HD4' := Lib.hid (show DkM w3.heap.size w4 bd bm 0 (Dk.fresh 1048576) [] by rw [hbm]; exact HD4.out)
      have HNA7 := Lib.hid (wName_any 7 w4 (HT3.out.ext HY4.out))
      clear hbd hbm hx4 hd4 HD4 HDN
      go_wp2_with fail
      refine HNA7.out.mono ?_
      rintro e w5 ⟨rfl, hx5⟩
      rw [show (wname 7) = nm7 from rfl]
      have HY5 := Lib.hid (HY4.out.trans hx5)
      have hmk := make_any (HD4'.out.ext hx5) (fresh_ok (by decide)) ((fresh_small 1048576).small (by decide)) HY5.out.size nm7 (by decide)
      rw [T1.out] at hmk
      have HMK := Lib.hid hmk
      have HD5 := Lib.hid (HD4'.out.ext hx5)
      clear hmk hx5 HNA7
      go_wp2_with fail
      refine HMK.out.mono ?_
      rintro e w6 ⟨pl6, ms6, rfl, hs6⟩
      have HY6 := Lib.hid (hs6.kb.ext HY5.out (fun b hb => HD5.out.lows b hb))
      have HD6 := Lib.hid hs6.dk
      have hap := append_any hs6.dk HOK1.out (HSM1.out.small (by decide)) HY6.out.size nm7 (by decide) (HBB.out.ext HY6.out)
      rw [T2.out] at hap
      have HAP := Lib.hid hap
      clear hap hs6 HMK
      dsimp only at HAP
      go_wp2_with fail
      refine HAP.out.mono ?_
      rintro e w7 ⟨pl7, ms7, rfl, hs7⟩
      have HY7 := Lib.hid (hs7.kb.ext HY6.out (fun b hb => HD6.out.lows b hb))
      have HD7 := Lib.hid hs7.dk
      have HOP := Lib.hid (wopen_any hs7.dk HY7.out HT3.out HOK2.out HSM2.out (by decide) 1000)
      clear hs7 HAP
      go_wp2_with fail
      refine HOP.out.mono ?_
      intro e w8 hq8
      obtain ⟨pl8, ms8, bl, va, vl, rfl, hc8, hk8, hb8⟩ := hq8.some_ T3.out
      obtain ⟨Av, cv, rfl⟩ := hb8.bsso.form
      have HC8 := Lib.hid hc8
      have HB8 := Lib.hid hb8
      have HRD := Lib.hid (read_any hc8.hd HOK3.out nm7 (by decide))
      rw [T4.out] at HRD
      clear hq8 hc8 hk8 hb8 HOP
      go_wp2_with fail
      refine HRD.out.mono ?_
      rintro e w9 ⟨vb, rfl, hob, hx9⟩
      obtain ⟨A9, c9, rfl, _, _, _, _⟩ := hob.bs.open_
      rw [HTB.out]
      have HC9 := Lib.hid (HC8.out.ext hx9)
      have HB9 := Lib.hid (HB8.out.kb (Kb.of_ext hx9))
      have HSA := Lib.hid (rSame_any _ _ _ _ w9 HB9.out.bsso.bss (HBR.out.ext HC9.out.hx))
      rw [show sameB rows rows = true by unfold sameB; exact beq_self_eq_true _] at HSA
      clear hob hx9 HRD
      go_wp2_with fail
      refine HSA.out.mono ?_
      rintro e w10 ⟨rfl, hx10⟩
      have HC10 := Lib.hid (HC9.out.ext hx10)
      have HB10 := Lib.hid (HB9.out.kb (Kb.of_ext hx10))
      have HF := Lib.hid (wFirst_any HC10.out.hd HC10.out.hl HL1.out.ne (Nat.le_trans HL1.out.nx (by decide)))
      rw [T5.out] at HF
      clear hx10 HSA
      go_wp2_with fail
      refine HF.out.mono ?_
      rintro e w11 ⟨rfl, hx11⟩
      have HC11 := Lib.hid (HC10.out.ext hx11)
      have HB11 := Lib.hid (HB10.out.kb (Kb.of_ext hx11))
      have HN := Lib.hid (wNext_any HC11.out.hd HC11.out.hl HL1.out.ne (Nat.le_trans HL1.out.nx (by decide)))
      rw [T6.out] at HN
      clear hx11 HF
      obtain ⟨nr, hnr⟩ : ∃ n, n = rows.length := ⟨_, rfl⟩
      have HNR := Lib.hid hnr
      have hnr2 : nr ≤ 20000 := by have := HRL.out; have := HBL.out; omega
      rw [← hnr] at HN ⊢
      obtain ⟨n7, hn7⟩ : ∃ n, n = 7 + nr := ⟨_, rfl⟩
      rw [← hn7] at HN
      have hw7 : IntKind.i64.wrap (7 + (nr : Int)) = (n7 : Int) := by rw [IntWalk.i64_in _ (by omega)]; omega
      clear hnr
      have HN7 := Lib.hid hn7
      have HNR2 := Lib.hid hnr2
      clear hn7 hnr2
      go_wp2_with fail
      refine HN.out.mono ?_
      rintro e w12 ⟨rfl, hx12⟩
      have HC12 := Lib.hid (HC11.out.ext hx12)
      have HB12 := Lib.hid (HB11.out.kb (Kb.of_ext hx12))
      have kc := fun (w : World) (C : Array Value) (n c : Nat) => Lib.run_convert_bytes_const (P := Tryd.prog) w 28 5 C n c Tryd.underlying28 Tryd.underlying5
      have hxa := ext_alloc w12 (.cells #[.int .u8 111, .int .u8 110] 5 (2, 3))
      have HCa := Lib.hid (HC12.out.ext hxa)
      have HBa := Lib.hid (HB12.out.kb (Kb.of_ext hxa))
      have hap := wAppend_any HCa.out.dl HCa.out.hx HT3.out HOK3.out HL1.out.ne HL1.out.pos HL1.out.nx9 HSM3.out (by decide) (Nat.le_trans HL1.out.len (by decide)) (Nat.le_trans HL1.out.bytes (by decide)) (two_bytesW w12 111 110)
      rw [show ([111, 110] : List UInt8) = onB from rfl, T7.out] at hap
      have HAP := Lib.hid hap
      dsimp only at HAP
      rw [← HNR.out, ← HN7.out] at HAP
      clear hap hxa hx12 HN
      go_wp2_with fail
      refine HAP.out.mono ?_
      rintro e w13 ⟨rfl, hs13⟩
      obtain ⟨fp13, hd13, hk13⟩ := Cont.of_dls hs13
      have HY13 := Lib.hid (hk13.low HCa.out.hx HCa.out.dl.low)
      have HB13 := Lib.hid (HBa.out.step hk13)
      have hsy := wSync_any hd13 HY13.out HT3.out HOK4.out (HSM4.out.small (by decide)) HL2.out.ne HL2.out.pos (Nat.le_trans HL2.out.nx (by decide))
      rw [T8.out] at hsy
      have HSY := Lib.hid hsy
      have HLOW := Lib.hid hd13.low
      dsimp only at HSY
      clear hsy hs13 hd13 hk13 HAP
      go_wp2_with fail
      refine HSY.out.mono ?_
      rintro e w14 ⟨rfl, hs14⟩
      obtain ⟨fp14, hd14, hk14⟩ := Cont.of_dls hs14
      have HY14 := Lib.hid (hk14.low HY13.out HLOW.out)
      have HB14 := Lib.hid (HB13.out.step hk14)
      obtain ⟨bm14, pl14, ms14, v14, hc14, hk14b⟩ := hd14.cx HY14.out HT3.out
      have HOP := Lib.hid (wopen_any hc14.hd HY14.out HT3.out HOK5.out HSM5.out (by decide) 1000)
      clear hs14 hd14 hk14 hk14b hc14 HSY
      go_wp2_with fail
      refine HOP.out.mono ?_
      intro e w15 hq15
      obtain ⟨pl15, ms15, bl15, va15, vl15, rfl, hc15, hk15, hb15⟩ := hq15.some_ T9.out
      obtain ⟨g15, c15, u15, rfl, hcell, hbs⟩ := bssO_get hb15.bsso (i := rows.length) (l := onB) (by simp)
      have HX15 := Lib.hid (HX3.out.trans hc15.hx)
      have HLW2 := Lib.hid (HLV.out w15 HX15.out)
      have hl1 : (rows ++ [onB]).length = nr + 1 := by rw [List.length_append, ← HNR.out]; rfl
      rw [← HNR.out] at hcell
      rw [hl1]
      have hcv := hbs.str (P := Tryd.prog) 28 9 5 Tryd.underlying28 Tryd.underlying5 Tryd.underlying9
      obtain ⟨A16, c16, rfl, -⟩ := hbs.open_
      have hwn : IntKind.i64.wrap ((nr : Int) + 1) = ((nr + 1 : Nat) : Int) := by rw [IntWalk.i64_in _ (by have := HNR2.out; omega)]; omega
      clear hq15 hc15 hk15 hb15 hbs hl1 HOP
      have hlen2 : onB.length = 2 := rfl
      rw [hlen2] at hcell hcv
      unfold onB at hcv
      clear hlen2
      go_wp2_with fail
      refine HLW2.out.mono ?_
      rintro e w16 ⟨rfl, hx16⟩
      go_wp2_with fail
      go_ret
      exact ⟨rfl, HX15.out.trans hx16⟩
end Go.Proofs.YtagghghoimpofaaDoor
