/-
  Layer 19: a change in new memory; the functions that are asked of each change; the maker of the iterator.
-/
import Derived.Test.YtacabcpjaadijaaDoorCapWs
import Derived.Deep.Cut
import Derived.Test.YtacabcpjaadijaaDoorRangeW
import Derived.WalkKit
import Derived.OwnWalkIn
namespace Go.Proofs.YtacabcpjaadijaaDoor
open Go Go.RowKit Mono Num
set_option linter.unusedVariables false
set_option linter.unusedSimpArgs false
set_option maxRecDepth 100000

theorem infoWrC : (Tryd.prog.info? 62).map (fun i => (i.zero, i.size, i.bytes)) = some (some (.agg #[.string ⟨#[]⟩, .int .i64 0, .bool false, .string ⟨#[]⟩]), 4, 48) := by kernel_rfl
theorem set7_blkC {w : World} {b : Nat} {y0 y1 y2 y3 y4 y5 y6 : Value} (h : Blk w b [y0, y1, y2, y3, y4, y5, y6]) (x0 x1 x2 x3 x4 x5 x6 : Value) :
    Blk (((((((w.setCell ⟨b, 0, none⟩ x0).setCell ⟨b, 1, none⟩ x1).setCell ⟨b, 2, none⟩ x2).setCell ⟨b, 3, none⟩ x3).setCell ⟨b, 4, none⟩ x4).setCell ⟨b, 5, none⟩ x5).setCell ⟨b, 6, none⟩ x6) b [x0, x1, x2, x3, x4, x5, x6] :=
  ((((((h.set 0 x0).set 1 x1).set 2 x2).set 3 x3).set 4 x4).set 5 x5).set 6 x6
theorem gb_transC {w w1 w2 : World} {row : Option Nat} (h : w.grownBy w1 row) (k : w1.grownBy w2 row) : w.grownBy w2 row :=
  ⟨k.os.trans h.os, k.tape.trans h.tape, k.output.trans h.output, Nat.le_trans h.size k.size, fun i hi hn => (k.block i (Nat.lt_of_lt_of_le hi h.size) hn).trans (h.block i hi hn)⟩
theorem gb7 (w : World) (b : Nat) (x0 x1 x2 x3 x4 x5 x6 : Value) : w.grownBy (((((((w.setCell ⟨b, 0, none⟩ x0).setCell ⟨b, 1, none⟩ x1).setCell ⟨b, 2, none⟩ x2).setCell ⟨b, 3, none⟩ x3).setCell ⟨b, 4, none⟩ x4).setCell ⟨b, 5, none⟩ x5).setCell ⟨b, 6, none⟩ x6) (some b) :=
  gb_transC (gb_transC (gb_transC (gb_transC (gb_transC (gb_transC (gb_setC _ _ _ _) (gb_setC _ _ _ _)) (gb_setC _ _ _ _)) (gb_setC _ _ _ _)) (gb_setC _ _ _ _)) (gb_setC _ _ _ _)) (gb_setC _ _ _ _)
theorem ext_gbC {w0 w w' : World} {r : Nat} (h : Ext w0 w) (hg : w.grownBy w' (some r)) (hr : w0.heap.size ≤ r) : Ext w0 w' :=
  Below.grown h hg h.size (fun k hk => by injection hk with hk; omega)
theorem row_slice {W : World} {z k sz : Nat} {e : TypeId} {v : Value} {xs : List Value} (h : W.ownsRow z e sz v k xs) : ∃ A n c, v = .slice A n c := by
  rcases h.2 with ⟨rfl, _⟩ | ⟨g, cap, cur, rfl, _⟩
  · exact ⟨_, _, _, rfl⟩
  · exact ⟨_, _, _, rfl⟩
set_option maxHeartbeats 1000000 in
theorem own_any (site seq sn ss va vb : Int) (ws : List Wr) (v : Value) (w : World) (h : Ws w v ws) (hl : ws.length ≤ 100000) :
    Calls Tryd.prog 28 #[chV ⟨site, seq, sn, ss, va, vb, ws⟩ v] w fun e w' => ∃ v', e = .returned (chV ⟨site, seq, sn, ss, va, vb, ws⟩ v') ∧ WsO w' v' ws ∧ Ext w w' := by
  obtain ⟨i0, hi0, hz0, hz1, hz2⟩ := info_parts infoWrC
  have hF := fl_of_ws h
  have hfit := h.2
  obtain ⟨A, c, rfl, _⟩ := h.at_
  clear h
  unfold chV
  dsimp only
  go_enter Tryd.func28, Tryd.ntmps28
  go_upto_region 1 with (fail)
  have ba := Blk.new w #[.int .i64 site, .int .i64 seq, .int .i64 sn, .int .i64 ss, .int .i64 va, .int .i64 vb, .slice A ws.length c] 32
  have bb := Blk.new (w.alloc (.cells #[.int .i64 site, .int .i64 seq, .int .i64 sn, .int .i64 ss, .int .i64 va, .int .i64 vb, .slice A ws.length c] 32)) #[.int .i64 0, .int .i64 0, .int .i64 0, .int .i64 0, .int .i64 0, .int .i64 0, .slice none 0 0] 32
  replace ba := ba.ext (ext_alloc _ (.cells #[.int .i64 0, .int .i64 0, .int .i64 0, .int .i64 0, .int .i64 0, .int .i64 0, .slice none 0 0] 32))
  have hx := Ext.trans (ext_alloc w (.cells #[.int .i64 site, .int .i64 seq, .int .i64 sn, .int .i64 ss, .int .i64 va, .int .i64 vb, .slice A ws.length c] 32)) (ext_alloc _ (.cells #[.int .i64 0, .int .i64 0, .int .i64 0, .int .i64 0, .int .i64 0, .int .i64 0, .slice none 0 0] 32))
  have hF2 := hF.ext hx
  have hta := (BlkC.new w #[.int .i64 site, .int .i64 seq, .int .i64 sn, .int .i64 ss, .int .i64 va, .int .i64 vb, .slice A ws.length c]).ext (ext_alloc _ (.cells #[.int .i64 0, .int .i64 0, .int .i64 0, .int .i64 0, .int .i64 0, .int .i64 0, .slice none 0 0] 32))
  have htb := BlkC.new (w.alloc (.cells #[.int .i64 site, .int .i64 seq, .int .i64 sn, .int .i64 ss, .int .i64 va, .int .i64 vb, .slice A ws.length c] 32)) #[.int .i64 0, .int .i64 0, .int .i64 0, .int .i64 0, .int .i64 0, .int .i64 0, .slice none 0 0]
  simp only [World.size_alloc] at bb htb
  obtain ⟨na, hna⟩ : ∃ n, n = w.heap.size := ⟨_, rfl⟩
  obtain ⟨nb, hnb⟩ : ∃ n, n = w.heap.size + 1 := ⟨_, rfl⟩
  have hwa : w.heap.size ≤ na := by omega
  have hwb : w.heap.size ≤ nb := by omega
  have hab : na ≠ nb := by omega
  rw [← hna] at ba hta
  rw [← hnb] at bb htb
  rw [← hnb, ← hna]
  clear hna hnb hF
  generalize (w.alloc (.cells #[.int .i64 site, .int .i64 seq, .int .i64 sn, .int .i64 ss, .int .i64 va, .int .i64 vb, .slice A ws.length c] 32)).alloc (.cells #[.int .i64 0, .int .i64 0, .int .i64 0, .int .i64 0, .int .i64 0, .int .i64 0, .slice none 0 0] 32) = W at *
  have ba1 := ba.ext (ext_alloc W (.cells #[] 62))
  have c6 := ba1.cell (i := 6) rfl
  have hE := empty_row (sz := 4) (e := 62) (w := W) (Nat.le_refl _)
  have hF3 := hF2.ext (ext_alloc W (.cells #[] 62))
  have hln := wrsC_len ws
  have h1c := wrsC_one ws
  have hlt := ba.lt
  have hlt2 := bb.lt
  go_upto_region 2 with (at_builtin; refine wpList_append_fl rfl (.tmp 3) (.tmp 5) 30 rfl W.heap.size 62 i0 _ 4 48 Tryd.underlying30 hi0 hz0 hz1 hz2 rfl (by decide) hE hF3 hln rfl rfl h1c (by unfold maxLen; omega) (by omega) (by simp) ?_; intro v' w1 hown' hg hat; obtain ⟨A', n', c', rfl⟩ := row_slice hown'; clear c6; have x1 : Ext W w1 := Below.grown (ext_alloc W (.cells #[] 62)) hg (by simp) (fun k hk => (World.ownsRow.lt hE k hk).1); have ba2 := ba.ext x1; have f2 := ba2.thaw 6; have e6 := ba2.cell (i := 6) rfl)
  have hown2 : WsO w1 (.slice A' n' c') ws := ⟨by
    rw [Nat.zero_add, List.nil_append] at hown'
    exact ⟨hown'.1, hown'.2.imp id (fun ⟨g, cap, cur, h1, h2, h3⟩ => ⟨g, cap, cur, h1, Nat.zero_le _, h3⟩)⟩, hfit⟩
  have hown3 := hown2.grown (gb_setC w1 na 6 (.slice A' n' c')) (fun j e => by
    injection e with e
    subst e
    obtain ⟨C, fz, hT⟩ := hta.ext x1
    exact ⟨_, by decide, _, _, hT⟩)
  have htb3 := (htb.ext x1).set ⟨na, 6, none⟩ (.slice A' n' c') hab
  have bb2 := bb.ext x1
  have hx2 := Ext.trans hx x1
  have ba3 := ba2.set 6 (.slice A' n' c')
  have bb3 := bb2.apart (a := ⟨na, 6, none⟩) (.slice A' n' c') (Ne.symm hab)
  simp only [List.set_cons_succ, List.set_cons_zero] at ba3
  have hx3 := Below.setCell hx2 (p := ⟨na, 6, none⟩) hwa (.slice A' n' c')
  generalize w1.setCell ⟨na, 6, none⟩ (.slice A' n' c') = W3 at *
  have k0 := ba3.cell (i := 0) rfl
  have k1 := ba3.cell (i := 1) rfl
  have k2 := ba3.cell (i := 2) rfl
  have k3 := ba3.cell (i := 3) rfl
  have k4 := ba3.cell (i := 4) rfl
  have k5 := ba3.cell (i := 5) rfl
  have k6 := ba3.cell (i := 6) rfl
  have z0 := bb3.thaw 0
  have z1 := bb3.thaw 1
  have z2 := bb3.thaw 2
  have z3 := bb3.thaw 3
  have z4 := bb3.thaw 4
  have z5 := bb3.thaw 5
  have z6 := bb3.thaw 6
  have y0 := bb3.cell (i := 0) rfl
  have y1 := bb3.cell (i := 1) rfl
  have y2 := bb3.cell (i := 2) rfl
  have y3 := bb3.cell (i := 3) rfl
  have y4 := bb3.cell (i := 4) rfl
  have y5 := bb3.cell (i := 5) rfl
  have y6 := bb3.cell (i := 6) rfl
  have hr := set7_blkC bb3 (.int .i64 site) (.int .i64 seq) (.int .i64 sn) (.int .i64 ss) (.int .i64 va) (.int .i64 vb) (.slice A' n' c')
  have r0 := hr.cell (i := 0) rfl
  have r1 := hr.cell (i := 1) rfl
  have r2 := hr.cell (i := 2) rfl
  have r3 := hr.cell (i := 3) rfl
  have r4 := hr.cell (i := 4) rfl
  have r5 := hr.cell (i := 5) rfl
  have r6 := hr.cell (i := 6) rfl
  have HE := Lib.hid hown3
  have HX := Lib.hid hx3
  have HB := Lib.hid htb3
  clear e6 htb3 hta htb hown3 hx3 hr hown2 hown' hE hF3 hF2 ba1 hg hat x1 ba2 f2 bb2 hx2 hfit h1c hln ba3 bb3 ba bb hx hlt hlt2 hz0 hz1 hz2 hi0
  go_wp2_with fail
  refine bodyPost_ret (v := .agg #[.int .i64 site, .int .i64 seq, .int .i64 sn, .int .i64 ss, .int .i64 va, .int .i64 vb, .slice A' n' c']) (by simp [results, Tryd.results28, r0, r1, r2, r3, r4, r5, r6, go_sem]) rfl ?_
  refine ⟨_, rfl, HE.out.grown (gb7 _ _ _ _ _ _ _ _ _) ?_, ext_gbC HX.out (gb7 _ _ _ _ _ _ _ _ _) hwb⟩
  intro j e
  injection e with e
  subst e
  obtain ⟨C, fz, hT⟩ := HB.out
  exact ⟨_, by decide, _, _, hT⟩

theorem own1_any (site seq sn ss va vb u : Int) (ws : List Wr) (v : Value) (B : Nat) (w : World) (h : Ws w v ws) (hB : w.cell? ⟨B, 0, none⟩ = some (.int .i64 u)) (hb : B < w.heap.size) :
    Calls Tryd.prog 27 #[chV ⟨site, seq, sn, ss, va, vb, ws⟩ v, .pointer (some ⟨B, 0, none⟩)] w fun e w' => e = .returned (.bool (decide (site = u))) ∧ Ext w w' := by
  obtain ⟨A, c, rfl, _⟩ := h.at_
  clear h
  unfold chV
  dsimp only
  have hx := ext_alloc w (.cells #[.int .i64 site, .int .i64 seq, .int .i64 sn, .int .i64 ss, .int .i64 va, .int .i64 vb, .slice A ws.length c] 32)
  have HX := Lib.hid hx
  have hB2 := (hx.cell (p := ⟨B, 0, none⟩) hb).trans hB
  clear hx
  go_enter Tryd.func27, Tryd.ntmps27
  go_wp2_with fail
  go_ret
  exact ⟨rfl, HX.out⟩
theorem from1_any (site seq sn ss va vb u : Int) (ws : List Wr) (v : Value) (B : Nat) (w : World) (h : Ws w v ws) (hB : w.cell? ⟨B, 0, none⟩ = some (.int .i64 u)) (hb : B < w.heap.size) :
    Calls Tryd.prog 45 #[chV ⟨site, seq, sn, ss, va, vb, ws⟩ v, .pointer (some ⟨B, 0, none⟩)] w fun e w' => e = .returned (.bool (decide (u < seq))) ∧ Ext w w' := by
  obtain ⟨A, c, rfl, _⟩ := h.at_
  clear h
  unfold chV
  dsimp only
  have hx := ext_alloc w (.cells #[.int .i64 site, .int .i64 seq, .int .i64 sn, .int .i64 ss, .int .i64 va, .int .i64 vb, .slice A ws.length c] 32)
  have HX := Lib.hid hx
  have hB2 := (hx.cell (p := ⟨B, 0, none⟩) hb).trans hB
  clear hx
  go_enter Tryd.func45, Tryd.ntmps45
  go_wp2_with fail
  go_ret
  exact ⟨rfl, HX.out⟩
theorem some_any (A : Option Addr) (n c k B : Nat) (w : World) :
    Calls Tryd.prog 26 #[.slice A n c, .func (.func k) #[] #[.pointer (some ⟨B, 0, none⟩)]] w fun e w' => e = .returned (.func (.func 46) #[] #[.pointer (some ⟨w.heap.size, 0, none⟩), .pointer (some ⟨w.heap.size + 1, 0, none⟩)]) ∧
      w' = (w.alloc (.cells #[.slice A n c] 22)).alloc (.cells #[.func (.func k) #[] #[.pointer (some ⟨B, 0, none⟩)]] 72) := by
  have hmf : ∀ (fn : Fn) (first cap : Array Value) (w : World), (Instr.makeFunc fn first cap).run Tryd.prog w = .ok (.func fn first cap) w := fun _ _ _ _ => rfl
  go_enter Tryd.func26, Tryd.ntmps26
  go_wp2_with fail
  go_ret
  exact ⟨rfl, rfl⟩
end Go.Proofs.YtacabcpjaadijaaDoor
