/-
  Layer 12: the sort's functions, over a 'less' that lays blocks: pdq.
-/
import Derived.Test.YtocdifjdeifclaaSrt5
import Derived.Test.YtocdifjdeifclaaSrt3
import Derived.Test.YtocdifjdeifclaaSrt4
import Derived.Test.YtocdifjdeifclaaSrt7
import Derived.Test.YtocdifjdeifclaaSrt8
import Derived.Test.YtocdifjdeifclaaSrt9
import Derived.Deep.DeepCutAuto
import Derived.Deep.CutBlock
import Derived.Deep.LoopGhost
namespace Go.Proofs.Ytocdifjdeifclaa
open Go Go.RowKit Mono Go.Sort
set_option linter.unusedVariables false
set_option linter.unusedSimpArgs false
set_option maxRecDepth 100000
set_option maxHeartbeats 4000000
variable {w0 W W' : World} {ob sf : Nat} {sb : Array Value} {blk off n : Nat} {d d' : Array Wr}

theorem hint2 {x : Hint} : hintCode x = 2 ↔ x = .decreasing := by cases x <;> simp [hintCode]
theorem sPdq_any (S : Srt w0 ob sf sb blk off n) (hO : SWO wahead) : ∀ (N a b limit : Nat) (d : Array Wr) (W : World), b - a < N → St w0 blk off n d W → a ≤ b → b ≤ n → limit < 4611686018427387904 → Below wahead a b d →
    Calls Try.prog 86 #[.agg #[.func (.func 63) #[] #[.pointer (some ⟨ob, 0, none⟩)], .func (.func sf) #[] sb], .int .i64 (a : Int), .int .i64 (b : Int), .int .i64 (limit : Int)] W
      fun e w' => e = .returned (.tuple #[]) ∧ Rb blk W w' ∧ St w0 blk off n (pdq wahead d a b limit true true) w' := by
  intro N
  induction N with
  | zero => intro _ _ _ _ _ h; exact absurd h (Nat.not_lt_zero _)
  | succ N ih =>
    intro a b limit d W hN h hab hb hli hBe
    have HIH := Lib.hid ih
    have HBE := Lib.hid hBe
    have HSO := Lib.hid hO
    have HS0 := Lib.hid S
    obtain ⟨R0, hR0⟩ : ∃ x, x = pdq wahead d a b limit true true := ⟨_, rfl⟩
    rw [← hR0]
    have HR0 := Lib.hid hR0
    clear ih hBe hO hR0
    have hn := S.hn
    have HS := Lib.hid S
    have hx := ext_alloc W (.cells #[.func (.func 63) #[] #[.pointer (some ⟨ob, 0, none⟩)], .func (.func sf) #[] sb] 147)
    have HBX := Lib.hid (Blk.new W #[.func (.func 63) #[] #[.pointer (some ⟨ob, 0, none⟩)], .func (.func sf) #[] sb] 147)
    have HH := Lib.hid (h.ext S hx)
    have HX := Lib.hid hx
    have HNB := Lib.hid (show W.heap.size ≠ blk by have := h.lt S; omega)
    have HNL := Lib.hid (show W.heap.size < (W.alloc (.cells #[.func (.func 63) #[] #[.pointer (some ⟨ob, 0, none⟩)], .func (.func sf) #[] sb] 147)).heap.size by rw [World.size_alloc]; omega)
    have HLO := Lib.hid (show w0.heap.size ≤ W.heap.size from h.rb.size)
    have k0 := HBX.out.cell (i := 0) rfl
    have k1 := HBX.out.cell (i := 1) rfl
    clear hx h S
    go_enter Try.func86, Try.ntmps86
    go_wp2_with fail
    obtain ⟨nb, hnb⟩ : ∃ nb, nb = W.heap.size := ⟨_, rfl⟩
    obtain ⟨wb, hwb⟩ : ∃ wb, wb = W.alloc (.cells #[.func (.func 63) #[] #[.pointer (some ⟨ob, 0, none⟩)], .func (.func sf) #[] sb] 147) := ⟨_, rfl⟩
    rw [← hwb] at HBX HH HX HNL k0 k1 ⊢
    rw [← hnb] at HBX HNB HNL HLO k0 k1 ⊢
    clear hwb hnb
    clear k0 k1 HS0
    go_loopg [1, 2, 3, 8, 9] (b - a) (fun g s1 s2 s3 s8 s9 wr => ∃ (a1 b1 lim : Nat) (fb fp : Bool) (dk : Array Wr), s1 = .int .i64 (a1 : Int) ∧ s2 = .int .i64 (b1 : Int) ∧ s3 = .int .i64 (lim : Int) ∧ s8 = .bool fb ∧ s9 = .bool fp ∧
      a1 ≤ b1 ∧ b1 ≤ n ∧ b1 - a1 ≤ g ∧ g ≤ b - a ∧ lim ≤ limit ∧ Below wahead a1 b1 dk ∧ Rb blk wb wr ∧ St w0 blk off n dk wr ∧ pdq wahead dk a1 b1 lim fb fp = R0)
    case atStart => exact ⟨a, b, limit, true, true, d, rfl, rfl, rfl, rfl, rfl, hab, hb, Nat.le_refl _, Nat.le_refl _, Nat.le_refl _, HBE.out, Rb.refl _ _, HH.out, HR0.out.symm⟩
    case round =>
      clear HH HBE HR0
      obtain ⟨a1, b1, lim, fb, fp, dk, rfl, rfl, rfl, rfl, rfl, hab1, hb1, hg1, hg2, hlm, hbe, hrb, hst, hO⟩ := hrel
      have HO := Lib.hid hO
      have HRB := Lib.hid hrb
      have HST := Lib.hid hst
      have HBE := Lib.hid hbe
      have HG := Lib.hid (And.intro hg1 hg2)
      clear hO hrb hst hbe hg1 hg2
      obtain ⟨ln, hln⟩ : ∃ x, x = b1 - a1 := ⟨_, rfl⟩
      have hwl : IntKind.i64.wrap ((b1 : Int) - (a1 : Int)) = (ln : Int) := by rw [IntWalk.i64_in _ (by omega)]; omega
      have HLN := Lib.hid hln
      clear hln
      have bx := HRB.out.blk HBX.out HNB.out
      have k0 := bx.cell (i := 0) rfl
      have k1 := bx.cell (i := 1) rfl
      clear bx
      by_cases h12 : ln ≤ 12
      · have h121 : (ln : Int) ≤ 12 := by omega
        have HC := Lib.hid (sIns_any HS.out HST.out hab1 hb1)
        have HD := Lib.hid (show R0 = insertionSort wahead dk a1 b1 by rw [← HO.out]; exact pdq_small (by rw [← HLN.out]; exact h12))
        go_wp2_with fail
        refine HC.out.mono ?_
        rintro e w3 ⟨rfl, hk3, hst3⟩
        have HST3 := Lib.hid hst3
        have HRB3 := Lib.hid (HRB.out.trans hk3)
        clear hk3 hst3 k0 k1
        go_wp2_with fail
        first | go_end0 | refine bodyPost_ret (results_none rfl _ _ _) rfl ?_
        rw [HD.out]
        exact ⟨rfl, (Rb.of_ext HX.out).trans HRB3.out, HST3.out⟩
      have h121 : ¬ (ln : Int) ≤ 12 := by omega
      by_cases hl0 : lim = 0
      · have hl01 : (lim : Int) = 0 := by omega
        have hl02 : ((lim : Int) == 0) = true := by simp [hl0]
        have HC := Lib.hid (sHeap_any HS.out HST.out hab1 hb1)
        have HD := Lib.hid (show R0 = heapSort wahead dk a1 b1 by rw [← HO.out]; exact pdq_heap (by rw [← HLN.out]; exact h12) hl0)
        clear hl0
        go_wp2_with fail
        refine HC.out.mono ?_
        rintro e w3 ⟨rfl, hk3, hst3⟩
        have HST3 := Lib.hid hst3
        have HRB3 := Lib.hid (HRB.out.trans hk3)
        clear hk3 hst3 k0 k1
        go_wp2_with fail
        first | go_end0 | refine bodyPost_ret (results_none rfl _ _ _) rfl ?_
        rw [HD.out]
        exact ⟨rfl, (Rb.of_ext HX.out).trans HRB3.out, HST3.out⟩
      have hl01 : ¬ (lim : Int) = 0 := by omega
      have hl02 : ((lim : Int) == 0) = false := by simp only [beq_eq_false_iff_ne, ne_eq]; exact hl01
      obtain ⟨d1, lm, cp, ch, d2, pv, ht, d3, dn, hRn⟩ := rnd HSO.out dk a1 b1 lim fb fp (by have := HLN.out; omega) (by rw [HST.out.len]; exact hb1) HBE.out
      have HRn := Lib.hid hRn
      have hpv := hRn.pvr
      have hcp := hRn.cpr
      have hlmm := hRn.lml
      have HN := Lib.hid (show ¬ b1 - a1 ≤ 12 by rw [← HLN.out]; exact h12)
      clear hRn
      go_upto_if 35 with fail
      go_cut [3] (fun s3 wc => s3 = .int .i64 (lm : Int) ∧ Rb blk wb wc ∧ St w0 blk off n d1 wc)
      case first =>
        cases fb with
        | false =>
          obtain ⟨e1, e2⟩ := HRn.out.unbal rfl
          have hws : IntKind.i64.wrap ((lim : Int) - 1) = (lm : Int) := by rw [IntWalk.i64_in _ (by omega)]; omega
          have HE := Lib.hid e1
          clear e1 e2
          have HC := Lib.hid (sBrk_any HS.out HST.out hab1 hb1)
          go_wp2_with fail
          refine HC.out.mono ?_
          rintro e w3 ⟨rfl, hk3, hst3⟩
          have HST3 := Lib.hid hst3
          have HRB3 := Lib.hid (HRB.out.trans hk3)
          clear hk3 hst3 k0 k1
          go_wp2_with fail
          go_meet
          exact ⟨rfl, HRB3.out, by rw [HE.out]; exact HST3.out⟩
        | true =>
          have HE := Lib.hid (HRn.out.bal rfl)
          go_wp2_with fail
          go_meet
          exact ⟨by rw [HE.out.2], HRB.out, by rw [HE.out.1]; exact HST.out⟩
      case rest =>
        obtain ⟨rfl, hrb, hst⟩ := hcut
        clear HRB HST k0 k1
        have HRB := Lib.hid hrb
        have HST := Lib.hid hst
        clear hrb hst
        have hc := sPivot_any HS.out HST.out (a := a1) (b := b1) (by have := HLN.out; omega) hb1
        rw [HRn.out.piv] at hc
        simp only at hc
        have HC := Lib.hid hc
        clear hc
        have bx := HRB.out.blk HBX.out HNB.out
        have k0 := bx.cell (i := 0) rfl
        have k1 := bx.cell (i := 1) rfl
        clear bx
        go_wp2_with fail
        refine HC.out.mono ?_
        rintro e w3 ⟨rfl, hx3⟩
        have HST3 := Lib.hid (HST.out.ext HS.out hx3)
        have HRB3 := Lib.hid (HRB.out.trans (Rb.of_ext hx3))
        clear hx3 k0 k1 HRB HST HC
        have bx := HRB3.out.blk HBX.out HNB.out
        have k0 := bx.cell (i := 0) rfl
        have k1 := bx.cell (i := 1) rfl
        clear bx
        go_upto_if 50 with fail
        go_cut [11, 12] (fun s11 s12 wc => s11 = .int .i64 (pv : Int) ∧ s12 = .int .i64 (hintCode ht) ∧ Rb blk wb wc ∧ St w0 blk off n d2 wc)
        case first =>
          by_cases hh : ch = .decreasing
          · obtain ⟨e2, epv, eht⟩ := HRn.out.dec hh
            have hcode : hintCode ch = 2 := hint2.2 hh
            have hcode2 : (hintCode ch == 2) = true := by rw [hcode]; rfl
            obtain ⟨bm, hbm⟩ : ∃ x, x = b1 - 1 := ⟨_, rfl⟩
            obtain ⟨ca, hca⟩ : ∃ x, x = cp - a1 := ⟨_, rfl⟩
            have hw1 : IntKind.i64.wrap ((b1 : Int) - 1) = (bm : Int) := by rw [IntWalk.i64_in _ (by omega)]; omega
            have hw2 : IntKind.i64.wrap ((cp : Int) - (a1 : Int)) = (ca : Int) := by rw [IntWalk.i64_in _ (by omega)]; omega
            have hw3 : IntKind.i64.wrap ((bm : Int) - (ca : Int)) = (pv : Int) := by rw [IntWalk.i64_in _ (by omega)]; omega
            have HE := Lib.hid (And.intro e2 eht)
            have HC := Lib.hid (sRev_any HS.out HST3.out hab1 hb1)
            clear e2 epv eht hbm hca hh
            go_wp2_with fail
            refine HC.out.mono ?_
            rintro e w4 ⟨rfl, hk4, hst4⟩
            have HST4 := Lib.hid hst4
            have HRB4 := Lib.hid (HRB3.out.trans hk4)
            clear hk4 hst4 k0 k1
            go_wp2_with fail
            go_meet
            exact ⟨rfl, by rw [HE.out.2]; rfl, HRB4.out, by rw [HE.out.1]; exact HST4.out⟩
          · have HE := Lib.hid (HRn.out.ndec hh)
            have hcode : ¬ hintCode ch = 2 := fun h => hh (hint2.1 h)
            have hcode2 : (hintCode ch == 2) = false := by simp only [beq_eq_false_iff_ne, ne_eq]; exact hcode
            go_wp2_with fail
            go_meet
            exact ⟨by rw [HE.out.2.1], by rw [HE.out.2.2], HRB3.out, by rw [HE.out.1]; exact HST3.out⟩
        case rest =>
          obtain ⟨rfl, rfl, hrb, hst⟩ := hcut
          clear HRB3 HST3 k0 k1
          have HRB := Lib.hid hrb
          have HST := Lib.hid hst
          clear hrb hst
          go_upto_region 16 with fail
          obtain ⟨tg, htg⟩ : ∃ x, x = (fb && fp && decide (ht = .increasing)) := ⟨_, rfl⟩
          have HTG := Lib.hid htg
          clear htg
          go_cut [12, 68] (fun s12 s68 wx => s12 = .int .i64 (hintCode ht) ∧ s68 = .bool tg ∧ wx = wc)
          case first =>
            cases fb <;> cases fp <;> cases ht <;>
              (have hT := HTG.out
               simp [hintCode] at hT
               subst hT
               simp only [hintCode]
               go_wp2_with fail
               go_meet
               exact ⟨rfl, rfl, rfl⟩)
          case rest =>
            obtain ⟨rfl, rfl, rfl⟩ := hcut
            go_upto_if 68 with fail
            go_cut [] (fun wx => dn = false ∧ Rb blk wb wx ∧ St w0 blk off n d3 wx)
            case first =>
              cases tg with
              | false =>
                obtain ⟨e1, e2⟩ := HRn.out.npar HTG.out.symm
                have HE := Lib.hid (And.intro e1 e2)
                clear e1 e2
                go_wp2_with fail
                go_meet
                exact ⟨HE.out.2, HRB.out, by rw [HE.out.1]; exact HST.out⟩
              | true =>
                have hc := sPartial_any HS.out HST.out (a := a1) (b := b1) (by have := HLN.out; omega) hb1
                rw [HRn.out.par HTG.out.symm] at hc
                simp only at hc
                have HC := Lib.hid hc
                clear hc
                have bx := HRB.out.blk HBX.out HNB.out
                have k0 := bx.cell (i := 0) rfl
                have k1 := bx.cell (i := 1) rfl
                clear bx
                go_wp2_with fail
                refine HC.out.mono ?_
                rintro e w3 ⟨rfl, hk3, hst3⟩
                have HST3 := Lib.hid hst3
                have HRB3 := Lib.hid (HRB.out.trans hk3)
                clear hk3 hst3 k0 k1
                cases dn with
                | true =>
                  have HD := Lib.hid (HO.out.symm.trans (HRn.out.done HN.out hl0 rfl))
                  go_wp2_with fail
                  first | go_end0 | refine bodyPost_ret (results_none rfl _ _ _) rfl ?_
                  rw [HD.out]
                  exact ⟨rfl, (Rb.of_ext HX.out).trans HRB3.out, HST3.out⟩
                | false =>
                  go_wp2_with fail
                  go_meet
                  exact ⟨trivial, HRB3.out, HST3.out⟩
            case rest =>
              obtain ⟨hdn, hrb, hst⟩ := hcut
              clear HRB HST
              have HRB := Lib.hid hrb
              have HST := Lib.hid hst
              have HDN := Lib.hid hdn
              clear hrb hst hdn
              go_upto_region 18 with fail
              obtain ⟨q, hq⟩ : ∃ x, x = (decide (a1 > 0) && !wahead d3[a1 - 1]! d3[pv]!) := ⟨_, rfl⟩
              have HQ := Lib.hid hq
              clear hq
              go_cut [83] (fun s83 wx => s83 = .bool q ∧ Rb blk wb wx ∧ St w0 blk off n d3 wx)
              case first =>
                by_cases ha0 : 0 < a1
                · have ha01 : (0 : Int) < (a1 : Int) := by omega
                  obtain ⟨a2, ha2⟩ : ∃ x, x = a1 - 1 := ⟨_, rfl⟩
                  have hwa : IntKind.i64.wrap ((a1 : Int) - 1) = (a2 : Int) := by rw [IntWalk.i64_in _ (by omega)]; omega
                  have HLE := Lib.hid (HS.out.le HST.out (i := a2) (j := pv) (by omega) (by omega))
                  have HE := Lib.hid (show q = !wahead d3[a2]! d3[pv]! by rw [HQ.out, ha2]; simp [ha0])
                  clear ha2
                  have bx := HRB.out.blk HBX.out HNB.out
                  have k0 := bx.cell (i := 0) rfl
                  have k1 := bx.cell (i := 1) rfl
                  clear bx
                  go_wp2_with fail
                  refine HLE.out.mono ?_
                  rintro e w3 ⟨rfl, hx3⟩
                  have HST3 := Lib.hid (HST.out.ext HS.out hx3)
                  have HRB3 := Lib.hid (HRB.out.trans (Rb.of_ext hx3))
                  clear hx3 k0 k1
                  go_wp2_with fail
                  go_meet
                  exact ⟨by rw [HE.out], HRB3.out, HST3.out⟩
                · have ha01 : ¬ (0 : Int) < (a1 : Int) := by omega
                  have HE := Lib.hid (show q = false by rw [HQ.out]; simp [ha0])
                  go_wp2_with fail
                  go_meet
                  exact ⟨by rw [HE.out], HRB.out, HST.out⟩
              case rest =>
                obtain ⟨rfl, hrb, hst⟩ := hcut
                clear HRB HST
                have HRB := Lib.hid hrb
                have HST := Lib.hid hst
                clear hrb hst
                have bx := HRB.out.blk HBX.out HNB.out
                have k0 := bx.cell (i := 0) rfl
                have k1 := bx.cell (i := 1) rfl
                clear bx
                cases q with
                | true =>
                  obtain ⟨mid, d4, hx⟩ : ∃ mid d4, partitionEqual wahead d3 a1 b1 pv = (mid, d4) := ⟨_, _, rfl⟩
                  obtain ⟨r1, r2, r3, r4⟩ := HRn.out.eqs HN.out hl0 HDN.out HQ.out.symm mid d4 hx
                  have hc := sPartEq_any HS.out HST.out hpv.1 hpv.2 hb1
                  rw [hx] at hc
                  simp only at hc
                  have HC := Lib.hid hc
                  have HE := Lib.hid (And.intro r3 (HO.out.symm.trans r4))
                  clear hc r3 r4 hx
                  go_wp2_with fail
                  refine HC.out.mono ?_
                  rintro e w3 ⟨rfl, hk3, hst3⟩
                  have HST3 := Lib.hid hst3
                  have HRB3 := Lib.hid (HRB.out.trans hk3)
                  clear hk3 hst3 k0 k1
                  go_wp2_with fail
                  go_roundg (b1 - mid)
                  case measure => have := HG.out; omega
                  case rel => exact ⟨mid, b1, lm, fb, fp, d4, rfl, rfl, rfl, rfl, rfl, r2, hb1, Nat.le_refl _, by have := HG.out; omega, by omega, HE.out.1, HRB3.out, HST3.out, HE.out.2.symm⟩
                | false =>
                  obtain ⟨mid, ap, d4, hx⟩ : ∃ mid ap d4, partition wahead d3 a1 b1 pv = (mid, ap, d4) := ⟨_, _, _, rfl⟩
                  obtain ⟨r1, r2, r3, r4, r5, r6⟩ := HRn.out.parts HN.out hl0 HDN.out HQ.out.symm mid ap d4 hx
                  have hc := sPart_any HS.out HST.out hpv.1 hpv.2 hb1
                  rw [hx] at hc
                  simp only at hc
                  have HC := Lib.hid hc
                  have HE := Lib.hid (And.intro (And.intro r3 r4) (And.intro r5 r6))
                  clear hc r3 r4 r5 r6 hx
                  go_wp2_with fail
                  refine HC.out.mono ?_
                  rintro e w3 ⟨rfl, hk3, hst3⟩
                  have HST3 := Lib.hid hst3
                  have HRB3 := Lib.hid (HRB.out.trans hk3)
                  clear hk3 hst3 k0 k1
                  obtain ⟨lf, hlf⟩ : ∃ x, x = mid - a1 := ⟨_, rfl⟩
                  obtain ⟨rt, hrt⟩ : ∃ x, x = b1 - mid := ⟨_, rfl⟩
                  obtain ⟨e8, he8⟩ : ∃ x, x = ln / 8 := ⟨_, rfl⟩
                  obtain ⟨m1, hm1⟩ : ∃ x, x = mid + 1 := ⟨_, rfl⟩
                  have hw1 : IntKind.i64.wrap ((mid : Int) - (a1 : Int)) = (lf : Int) := by rw [IntWalk.i64_in _ (by omega)]; omega
                  have hw2 : IntKind.i64.wrap ((b1 : Int) - (mid : Int)) = (rt : Int) := by rw [IntWalk.i64_in _ (by omega)]; omega
                  have hw3 : (ln : Int).tdiv 8 = (e8 : Int) := by rw [Int.tdiv_eq_ediv_of_nonneg (by omega)]; omega
                  have hw4 : IntKind.i64.wrap (e8 : Int) = (e8 : Int) := by have := HLN.out; rw [IntWalk.i64_in _ (by omega)]
                  have hw5 : IntKind.i64.wrap ((mid : Int) + 1) = (m1 : Int) := by rw [IntWalk.i64_in _ (by omega)]; omega
                  have HLF := Lib.hid (show lf = mid - a1 ∧ rt = b1 - mid ∧ e8 = (b1 - a1) / 8 ∧ m1 = mid + 1 from ⟨hlf, hrt, by rw [he8, HLN.out], hm1⟩)
                  clear hlf hrt he8 hm1
                  have bx := HRB3.out.blk HBX.out HNB.out
                  have k0 := bx.cell (i := 0) rfl
                  have k1 := bx.cell (i := 1) rfl
                  clear bx
                  by_cases h4 : lf < rt
                  · have h41 : (lf : Int) < (rt : Int) := by omega
                    obtain ⟨q1, q2⟩ := HE.out.2.1 (by have := HLF.out; omega)
                    obtain ⟨d5, hd5⟩ : ∃ x, x = pdq wahead d4 a1 mid lm true true := ⟨_, rfl⟩
                    rw [← hd5] at q1 q2
                    have hc := HIH.out a1 mid lm d4 w3 (by have := HG.out; omega) HST3.out r1 (by omega) (by omega) HE.out.1.1
                    rw [← hd5] at hc
                    have HC2 := Lib.hid hc
                    have HF := Lib.hid (And.intro q1 (HO.out.symm.trans q2))
                    clear hc q1 q2 hd5
                    go_wp2_with fail
                    refine HC2.out.mono ?_
                    rintro e w4 ⟨rfl, hk4, hst4⟩
                    have HST4 := Lib.hid hst4
                    have HRB4 := Lib.hid (HRB3.out.trans hk4)
                    clear hk4 hst4 k0 k1
                    go_wp2_with fail
                    go_roundg (b1 - m1)
                    case measure => have := HG.out; have := HLF.out; omega
                    case rel =>
                      obtain ⟨l1, l2, l3, l4⟩ := HLF.out
                      refine ⟨m1, b1, lm, decide (mid - a1 ≥ (b1 - a1) / 8), ap, d5, rfl, rfl, rfl, ?_, rfl, by omega, hb1, Nat.le_refl _, by have := HG.out; omega, by omega, by rw [l4]; exact HF.out.1, HRB4.out, HST4.out, by rw [l4]; exact HF.out.2.symm⟩
                      rw [← l1, ← l3]
                      all_goals exact congrArg Value.bool (decide_eq_decide.2 ⟨fun h => by omega, fun h => by omega⟩)
                  · have h41 : ¬ (lf : Int) < (rt : Int) := by omega
                    obtain ⟨q1, q2⟩ := HE.out.2.2 (by have := HLF.out; omega)
                    obtain ⟨d5, hd5⟩ : ∃ x, x = pdq wahead d4 (mid + 1) b1 lm true true := ⟨_, rfl⟩
                    rw [← hd5] at q1 q2
                    have hc := HIH.out (mid + 1) b1 lm d4 w3 (by have := HG.out; have := HLF.out; omega) HST3.out (by omega) hb1 (by omega) HE.out.1.2
                    rw [← hd5, ← HLF.out.2.2.2] at hc
                    have HC2 := Lib.hid hc
                    have HF := Lib.hid (And.intro q1 (HO.out.symm.trans q2))
                    clear hc q1 q2 hd5
                    go_wp2_with fail
                    refine HC2.out.mono ?_
                    rintro e w4 ⟨rfl, hk4, hst4⟩
                    have HST4 := Lib.hid hst4
                    have HRB4 := Lib.hid (HRB3.out.trans hk4)
                    clear hk4 hst4 k0 k1
                    go_wp2_with fail
                    go_roundg (mid - a1)
                    case measure => have := HG.out; have := HLF.out; omega
                    case rel =>
                      obtain ⟨l1, l2, l3, l4⟩ := HLF.out
                      refine ⟨a1, mid, lm, decide (b1 - mid ≥ (b1 - a1) / 8), ap, d5, rfl, rfl, rfl, ?_, rfl, by omega, by omega, Nat.le_refl _, by have := HG.out; omega, by omega, HF.out.1, HRB4.out, HST4.out, HF.out.2.symm⟩
                      rw [← l2, ← l3]
                      all_goals exact congrArg Value.bool (decide_eq_decide.2 ⟨fun h => by omega, fun h => by omega⟩)
end Go.Proofs.Ytocdifjdeifclaa
