/-
 Layer 16: the chapter's example.
-/
import Derived.Test.YtagghghoimpofaaGreatDoorWalRead
import Derived.Laws.Closers25b
namespace Go.Proofs.YtagghghoimpofaaGreatDoor
open Go Go.RowKit Mono
set_option linter.unusedVariables false
set_option linter.unusedSimpArgs false
set_option maxRecDepth 100000
set_option maxHeartbeats 4000000

def lvA : List UInt8 := [97, 97, 97, 97]
def lv : Nat → Dk × Lg
 | 0 => ((wOpen (Dk.fresh 1000) 20).d, ⟨[⟨1, 0, 0⟩], 20, 0, 0⟩)
 | k + 1 => (wAppend (lv k).1 (lv k).2 lvA).1
theorem lv_open : wOpen (Dk.fresh 1000) 20 = ⟨(lv 0).1, some (lv 0).2, [], 0⟩ := by kernel_rfl
theorem lv_e : ∀ k, k < 3 → (wAppend (lv k).1 (lv k).2 lvA).2 = (k + 1, 0)
 | 0, _ => by kernel_rfl
 | 1, _ => by kernel_rfl
 | 2, _ => by kernel_rfl
 | _ + 3, h => by omega
theorem lv_names : (lv 3).1.fs.map (fun f => f.name) = [[119, 48, 48, 48, 48, 48, 48, 48, 48, 48, 48, 48, 49], [119, 48, 48, 48, 48, 48, 48, 48, 48, 48, 48, 48, 51]] := by kernel_rfl
theorem lv_next : (lv 3).2.next = 4 := by kernel_rfl
theorem lv_ok : ∀ k, (lv k).1.Ok
 | 0 => wOpen_ok (fresh_ok (by decide)) 20
 | k + 1 => wAppend_ok (lv_ok k) _ _
theorem lv_small : ∀ k, (lv k).1.SmallC (2 + 3 * k)
 | 0 => wOpen_small (fresh_small 1000) 20
 | k + 1 => (wAppend_small (lv_small k) _ _).more (by omega)
theorem lv_lok : ∀ k, LOk (2 * k) (lv k).2
 | 0 => wOpen_lok (d := Dk.fresh 1000) (fresh_ok (by decide)) 20 (by rw [lv_open])
 | k + 1 => (wAppend_lok (lv_lok k)).more (by omega)
theorem four_bytes (W : World) (a b c d : UInt8) : Bs (W.alloc (.cells #[.int .u8 (a.toNat : Int), .int .u8 (b.toNat : Int), .int .u8 (c.toNat : Int), .int .u8 (d.toNat : Int)] 5 (4, 5))) (.slice (some ⟨W.heap.size, 0, none⟩) 4 4) [a, b, c, d] :=
 Sl.alloc_ W 5 (4, 5) (by simp [bv]) (by simp) (Nat.le_refl _) (by decide)
theorem wlives_any (W : World) (hT : TbW W) : Calls Tryz.prog 7 #[] W fun e w' => e = .returned (.bool true) ∧ Ext W w' := by
 have HNH := Lib.hid (dkNew_any 1000 W (by decide))
 have HT := Lib.hid hT
 have kc := fun (w : World) (C : Array Value) (n c : Nat) => Lib.run_convert_bytes_const (P := Tryz.prog) w 34 5 C n c Tryz.underlying34 Tryz.underlying5
 clear hT
 go_enter Tryz.func7, Tryz.ntmps7
 go_wp2_with fail
 refine HNH.out.mono ?_
 rintro e w1 ⟨rfl, hx1, hd1⟩
 have HOP := Lib.hid (wopen_any hd1 hx1 HT.out (fresh_ok (by decide)) (fresh_small 1000) (by decide) 20)
 have HX1 := Lib.hid hx1
 have HDL := Lib.hid hd1.lows
 obtain ⟨bd, hbd⟩ : ∃ b, b = W.heap.size + 1 := ⟨_, rfl⟩
 rw [← hbd] at HOP HDL
 rw [← hbd]
 clear hbd hx1 hd1 HNH
 go_wp2_with fail
 refine HOP.out.mono ?_
 rintro e w2 ⟨pl2, ms2, hq⟩
 rw [lv_open] at hq
 obtain ⟨bl, va, v, rfl, hc, hk, hb⟩ := hq
 obtain ⟨A, c, rfl⟩ := hb.bsso.form
 have HX2 := Lib.hid (hk.low HX1.out HDL.out)
 have HD2 := Lib.hid hc.dl
 clear hc hk hb HOP HX1 HDL
 go_wp2_with fail
 go_loopw [27] (fun kv wr => ∃ k : Nat, k ≤ 3 ∧ kv = .int .i64 (k : Int) ∧ ∃ fp, DL W.heap.size bd bl fp (lv k).1 (lv k).2 wr ∧ Ext W wr) (fun kv _ => 3 - (intOf kv).toNat)
 case atStart => exact ⟨0, by decide, rfl, _, HD2.out, HX2.out⟩
 case round =>
  obtain ⟨k, hk, rfl, fp, hd, hx⟩ := hrel
  have HD := Lib.hid hd
  have HX := Lib.hid hx
  clear hd hx
  by_cases hlt : k < 3
  ·have hk1 : (k : Int) < 3 := by omega
   obtain ⟨k1, hk1d⟩ : ∃ k1, k1 = k + 1 := ⟨_, rfl⟩
   have hw : IntKind.i64.wrap ((k : Int) + 1) = (k1 : Int) := by rw [IntWalk.i64_in _ (by omega)]; omega
   have he := lv_e k hlt
   have hxa := HX.out.trans (ext_alloc wr (.cells #[.int .u8 97, .int .u8 97, .int .u8 97, .int .u8 97] 5 (4, 5)))
   have hda := HD.out.ext (ext_alloc wr (.cells #[.int .u8 97, .int .u8 97, .int .u8 97, .int .u8 97] 5 (4, 5)))
   have hap := wAppend_any hda hxa HT.out (lv_ok k) (lv_lok k).ne (lv_lok k).pos (lv_lok k).nx9 (lv_small k) (by omega) (Nat.le_trans (lv_lok k).len (by omega)) (Nat.le_trans (lv_lok k).bytes (by omega)) (four_bytes wr 97 97 97 97)
   rw [show ([97, 97, 97, 97] : List UInt8) = lvA from rfl, he] at hap
   have HLV := Lib.hid (show (wAppend (lv k).1 (lv k).2 lvA).1 = lv k1 by rw [hk1d]; rfl)
   have HAP := Lib.hid hap
   have HXA := Lib.hid hxa
   have HLO := Lib.hid hda.low
   have HK1 := Lib.hid hk1d
   dsimp only at HAP
   rw [← hk1d] at HAP
   clear hap he hxa hda hk1d
   go_wp2_with fail
   refine HAP.out.mono ?_
   rintro e w3 ⟨rfl, hs⟩
   obtain ⟨fp3, hd3, hk3⟩ := Cont.of_dls hs
   have HD3 := Lib.hid hd3
   have HX3 := Lib.hid (hk3.low HXA.out HLO.out)
   rw [HLV.out] at HD3
   clear hs hd3 hk3
   go_wp2_with fail
   go_roundw
   case rel => exact ⟨k1, by have := HK1.out; omega, rfl, fp3, HD3.out, HX3.out⟩
   case measure => have := HK1.out; simp [intOf]; omega
  ·obtain rfl : k = 3 := by omega
   obtain ⟨bm, pl, ms, v3, hc, -⟩ := HD.out.cx HX.out HT.out
   have HNM := Lib.hid (names_any hc.hd (lv_ok 3))
   have HC := Lib.hid hc
   rw [lv_names] at HNM
   clear hc hlt
   go_wp2_with fail
   refine HNM.out.mono ?_
   rintro e w4 ⟨vn, rfl, hss, hx4⟩
   obtain ⟨A4, c4, rfl, -, -, s3⟩ := hss.at_
   obtain ⟨b, off, rfl, hb, hcell⟩ := s3 (by decide)
   have kc1 := hcell 1 _ rfl
   have HNX := Lib.hid (wNext_any (HC.out.hd.ext hx4) (HC.out.hl.ext hx4) (lv_lok 3).ne (Nat.le_trans (lv_lok 3).nx (by decide)))
   rw [lv_next] at HNX
   have HC1 := Lib.hid (fun w (h : Ext w4 w) => (h.cell (p := ⟨b, off + 1, none⟩) hb).trans kc1)
   have HX4 := Lib.hid ((HX.out).trans hx4)
   have HNU := Lib.hid (fun w => wNumber_any [119, 48, 48, 48, 48, 48, 48, 48, 48, 48, 48, 48, 51] w (by decide))
   rw [show wnum [119, 48, 48, 48, 48, 48, 48, 48, 48, 48, 48, 48, 51] = 3 by kernel_rfl] at HNU
   unfold strV at kc1 HC1 HNU
   clear hss s3 hb hcell hx4
   go_wp2_with fail
   refine HNX.out.mono ?_
   rintro e w5 ⟨rfl, hx5⟩
   have kc5 := HC1.out w5 hx5
   have HN5 := Lib.hid (HNU.out w5)
   have HX5 := Lib.hid (HX4.out.trans hx5)
   clear hx5
   go_wp2_with fail
   refine HN5.out.mono ?_
   rintro e w6 ⟨rfl, rfl⟩
   go_wp2_with fail
   go_ret
   exact ⟨rfl, HX5.out⟩
end Go.Proofs.YtagghghoimpofaaGreatDoor
