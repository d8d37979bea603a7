/-
 Layer 16: the program's log: Append.
-/
import Derived.Test.YtagghghoimpofaaGreatDoorWalInv
namespace Go.Proofs.YtagghghoimpofaaGreatDoor
open Go Go.RowKit Mono
set_option linter.unusedVariables false
set_option linter.unusedSimpArgs false
set_option maxRecDepth 100000
set_option maxHeartbeats 4000000

theorem set_last {α : Type} (l : List α) (x : α) (h : l ≠ []) : l.set (l.length - 1) x = l.dropLast ++ [x] := by
 have e : l = l.dropLast ++ [l.getLast h] := (List.dropLast_concat_getLast h).symm
 have hl : l.length - 1 = l.dropLast.length := by simp
 rw [hl]
 conv => lhs; rw [e]
 rw [List.set_append]
 simp
theorem wrap_len (l : List UInt8) : (wrap l).length ≤ l.length + 20 := by
 unfold wrap
 split
 ·simp
 ·unfold Crc.fix
  have := Num.nsize_le (l.length : Int)
  simp [Num.nput_length, Crc.sumB]
  omega
theorem Lg.up_segs (l : Lg) (n : Nat) (h : l.segs ≠ []) : (l.up n).segs ≠ [] ∧ (l.up n).segs.length = l.segs.length ∧ (l.up n).last = ⟨l.last.frm, l.last.count + 1, l.last.bytes + n⟩ := by
 refine ⟨by unfold Lg.up; simp, ?_, Lg.last_snoc _ _ rfl⟩
 unfold Lg.up
 have := List.length_pos_iff.2 h
 simp
 omega
theorem Lg.up_next (l : Lg) (n : Nat) (h : l.segs ≠ []) : (l.up n).next = l.next + 1 := by
 unfold Lg.next
 rw [(Lg.up_segs l n h).2.2]
 exact (Nat.add_assoc _ _ _).symm
theorem Cont.not {fp fp1 : Nat → Prop} {W w : World} (h : Cont fp W fp1 w) {v : Value} (hn : ∀ j, v.ownBlock = some j → j < W.heap.size ∧ ¬ fp j) : ∀ j, v.ownBlock = some j → j < w.heap.size ∧ ¬ fp1 j := fun j hj => by
 obtain ⟨h1, h2⟩ := hn j hj
 exact ⟨Nat.lt_of_lt_of_le h1 h.kb.size, fun hq => (h.sub j hq).elim h2 (fun hs => Nat.not_lt.2 hs h1)⟩
/-- A count is one more, and so many bytes are more. -/
theorem LgM.up {z bl bd g c : Nat} {W : World} {l : Lg} (h : LgM z W bl bd (.slice (some ⟨g, 0, none⟩) l.segs.length c) l) (hne : l.segs ≠ []) (n : Nat) {i : Nat} (hi : i = l.segs.length - 1) :
  (W.setCell ⟨g, i * 3 + 1, none⟩ (.int .i64 ((l.last.count + 1 : Nat) : Int))).cell? ⟨g, i * 3 + 2, none⟩ = some (.int .i64 (l.last.bytes : Int)) ∧
  LgM z ((W.setCell ⟨g, i * 3 + 1, none⟩ (.int .i64 ((l.last.count + 1 : Nat) : Int))).setCell ⟨g, i * 3 + 2, none⟩ (.int .i64 ((l.last.bytes + n : Nat) : Int))) bl bd (.slice (some ⟨g, 0, none⟩) l.segs.length c) (l.up n) := by
 subst hi
 have ha := Lg.last_at hne
 have h1 := h.sput (l' := { l with segs := l.segs.set (l.segs.length - 1) { l.last with count := l.last.count + 1 } }) ((l.segs.length - 1) * 3 + 1) (.int .i64 ((l.last.count + 1 : Nat) : Int)) (scells_count ha _) (by simp) ⟨rfl, rfl, rfl⟩
 have hlt : l.segs.length - 1 < l.segs.length := by have := segs_pos hne; omega
 have ha2 : (l.segs.set (l.segs.length - 1) { l.last with count := l.last.count + 1 })[l.segs.length - 1]? = some { l.last with count := l.last.count + 1 } := by rw [List.getElem?_set_self hlt]
 refine ⟨(h1.cells ha2).2.2, ?_⟩
 refine h1.sput ((l.segs.length - 1) * 3 + 2) (.int .i64 ((l.last.bytes + n : Nat) : Int)) ?_ ?_ ⟨rfl, rfl, rfl⟩
 ·rw [scells_bytes ha2 (l.last.bytes + n)]
  congr 1
  show (l.segs.set _ _).set _ _ = _
  rw [List.set_set, set_last _ _ hne]
  rfl
 ·rw [(Lg.up_segs l n hne).2.1]
  simp
theorem wAppend_any {W0 W : World} {bd bl : Nat} {fp : Nat → Prop} {d : Dk} {l : Lg} (h : DL W0.heap.size bd bl fp d l W) (hx : Ext W0 W) (hT : TbW W0) (hok : d.Ok) (hne : l.segs ≠ []) (hps : 1 ≤ l.next) (hnx : l.next ≤ 8000000000000000000) {c0 : Nat} (hsc : d.SmallC c0) (hc0 : c0 + 10 ≤ 1000000000) (hln : l.segs.length ≤ 100000000) (hby : l.last.bytes ≤ 1000000000000) {vr : Value} {rec : List UInt8} (hr : Bs W vr rec) :
  Calls Tryz.prog 13 #[.pointer (some ⟨bl, 0, none⟩), vr] W fun e w' => e = .returned (.tuple #[.int .i64 ((wAppend d l rec).2.1 : Int), .int .i64 ((wAppend d l rec).2.2 : Int)]) ∧ DLS W0.heap.size bd bl fp (wAppend d l rec).1.1 (wAppend d l rec).1.2 W w' := by
 obtain ⟨bm, pl, ms, v, hc, hfp⟩ := h.cx hx hT
 obtain ⟨g, cv, rfl, -⟩ := hc.hl.slice hne
 obtain ⟨Ar, cr, rfl, r1, r2, -, -⟩ := hr.open_
 unfold maxLen at r2
 have r3 : rec.length ≤ 9223372036854775807 := by omega
 clear r1 r2
 have HFA := Lib.hid (wfault_any hc.hd hc.hl)
 have HK := Lib.hid hfp
 have HPS := Lib.hid hps
 have HC := Lib.hid hc
 have HNE := Lib.hid hne
 have HNX := Lib.hid hnx
 have HOK := Lib.hid hok
 have HSM := Lib.hid (hsc.small (by omega))
 have HSC := Lib.hid hsc
 have HC0 := Lib.hid hc0
 have HLN := Lib.hid hln
 have HBY := Lib.hid hby
 have HDL := Lib.hid h
 have HX := Lib.hid hx
 have HT := Lib.hid hT
 have HR := Lib.hid hr
 clear hc hne hps hnx hok h hx hT hfp hr hsc hc0 hln hby
 have HAU := Lib.hid (show wAppend d l rec = if wFault d l ≠ 0 then ((d, l), 0, wFault d l) else if 262144 < rec.length then ((d, l), 0, 3) else if 999999999999 ≤ l.next then ((d, l), 0, 151) else if 0 < l.last.count ∧ l.size < l.last.bytes + (wrap rec).length then (if (wRoll d l).2 ≠ 0 then ((wRoll d l).1, 0, (wRoll d l).2) else wPut (wRoll d l).1.1 (wRoll d l).1.2 (wrap rec)) else wPut d l (wrap rec) from rfl)
 generalize wFault d l = n at *
 by_cases hn0 : n = 0
 rotate_left
 ·have hn1 : ¬ (n : Int) = 0 := by omega
  rw [if_pos hn0] at HAU
  clear hn0
  go_enter Tryz.func13, Tryz.ntmps13
  go_wp2_with fail
  refine HFA.out.mono ?_
  rintro e w1 ⟨rfl, hx1⟩
  go_wp2_with fail
  go_ret2
  rw [HAU.out]
  exact ⟨rfl, DLS.ext HDL.out hx1⟩
 subst hn0
 rw [if_neg (by omega)] at HAU
 by_cases hbig : 262144 < rec.length
 ·rw [if_pos hbig] at HAU
  go_enter Tryz.func13, Tryz.ntmps13
  go_wp2_with fail
  refine HFA.out.mono ?_
  rintro e w1 ⟨rfl, hx1⟩
  go_wp2_with fail
  go_ret2
  rw [HAU.out]
  exact ⟨rfl, DLS.ext HDL.out hx1⟩
 rw [if_neg hbig] at HAU
 go_enter Tryz.func13, Tryz.ntmps13
 go_wp2_with fail
 refine HFA.out.mono ?_
 rintro e w1 ⟨rfl, hx1⟩
 replace HC := Lib.hid (HC.out.ext hx1)
 replace HK := Lib.hid (HK.out.ext hx1)
 replace HR := Lib.hid (HR.out.ext hx1)
 have HKN := Lib.hid (wnext_any HC.out.hl HNE.out (Nat.le_trans HNX.out (by decide)))
 clear hx1 HFA
 go_wp2_with fail
 refine HKN.out.mono ?_
 rintro e w2 ⟨rfl, hx2⟩
 replace HC := Lib.hid (HC.out.ext hx2)
 replace HK := Lib.hid (HK.out.ext hx2)
 replace HR := Lib.hid (HR.out.ext hx2)
 clear HKN hx2
 by_cases hmost : 999999999999 ≤ l.next
 ·rw [if_pos hmost] at HAU
  have hm2 : (999999999999 : Int) ≤ (l.next : Int) := by omega
  clear hmost
  generalize (l.next : Int) = q6 at *
  go_wp2_with fail
  go_ret2
  rw [HAU.out]
  exact ⟨rfl, HK.out.done HC.out.dl⟩
 rw [if_neg hmost] at HAU
 have hm2 : ¬ (999999999999 : Int) ≤ (l.next : Int) := by omega
 clear hmost
 generalize (l.next : Int) = q6 at hm2 ⊢
 have HFW := Lib.hid (fWrap_any _ _ _ HR.out)
 go_wp2_with fail
 refine HFW.out.mono ?_
 rintro e w3 ⟨vf, rfl, hof, hx3⟩
 have hwl := wrap_len rec
 obtain ⟨n2, hn2⟩ : ∃ n2, n2 = (wrap rec).length := ⟨_, rfl⟩
 obtain ⟨A2, c2, hvf, -, -, -, -⟩ := hof.bs.open_
 rw [← hn2] at hvf hwl HAU
 subst hvf
 have HB := Lib.hid hof.bs
 have HN2 := Lib.hid hn2.symm
 have HN2L := Lib.hid (show n2 ≤ 1000000 by omega)
 have HFB := Lib.hid (show ∀ j, (Value.slice A2 n2 c2).ownBlock = some j → j < w3.heap.size ∧ ¬ cfp bd bl bm pl d ms (.slice (some ⟨g, 0, none⟩) l.segs.length cv) j from fun j hj => ⟨(World.ownsRow.lt hof j hj).2, fun hq => by
  have h1 := (World.ownsRow.lt hof j hj).1
  rcases hq with hq | hq
  ·have := HC.out.hd.lt j hq
   omega
  ·have := HC.out.hl.lt j hq
   omega⟩)
 replace HC := Lib.hid (HC.out.ext hx3)
 replace HK := Lib.hid (HK.out.ext hx3)
 clear hof hx3 hn2 HFW HR hwl
 obtain ⟨i0, hi0⟩ : ∃ i, i = l.segs.length - 1 := ⟨_, rfl⟩
 have hi20 := Lg.last_at HNE.out
 rw [← hi0] at hi20
 have HI20 := Lib.hid hi20
 have HLA0 := Lib.hid (wlast_any HC.out.hl HNE.out)
 rw [← hi0] at HLA0
 clear hi20 hi0
 go_wp2_with fail
 refine HLA0.out.mono ?_
 rintro e w4 ⟨rfl, hx4⟩
 replace HC := Lib.hid (HC.out.ext hx4)
 replace HK := Lib.hid (HK.out.ext hx4)
 replace HB := Lib.hid (HB.out.ext hx4)
 replace HFB := Lib.hid (show ∀ j, (Value.slice A2 n2 c2).ownBlock = some j → j < w4.heap.size ∧ ¬ cfp bd bl bm pl d ms (.slice (some ⟨g, 0, none⟩) l.segs.length cv) j from fun j hj => ⟨Nat.lt_of_lt_of_le (HFB.out j hj).1 hx4.size, (HFB.out j hj).2⟩)
 clear HLA0 hx4
 have hw45 : IntKind.i64.wrap ((l.last.bytes : Int) + (n2 : Int)) = (l.last.bytes : Int) + (n2 : Int) := by rw [IntWalk.i64_in _ (by have := HBY.out; have := HN2L.out; omega)]
 have HW45 := Lib.hid hw45
 clear hw45
 go_wp2_with fail
 by_cases hcnt : 0 < l.last.count
 rotate_left
 ·have HWP := Lib.hid (HAU.out.trans (if_neg (fun h => hcnt h.1)))
  refine wp_region_mono (by kernel_rfl) (by kernel_rfl) ?_
  refine tele_move rfl (.inl rfl) rfl (isV (.pointer (some ⟨g, i0 * 3, none⟩))) (fun ρ w' h => h) ?_
  refine tele_val rfl (.pointer (some ⟨g, i0 * 3, none⟩)) (fun _ _ _ => rfl) ?_ ?_
  ·rintro ρ w' he ⟨h33, -⟩
   have e33 : ρ 33 = (.pointer (some ⟨g, i0 * 3, none⟩)) := h33
   simp [execOp, evR, e33, go_sem]
  refine tele_val rfl (.pointer (some ⟨g, i0 * 3 + 1, none⟩)) (fun _ _ _ => rfl) ?_ ?_
  ·rintro ρ w' he ⟨h34, -⟩
   have e34 : ρ 34 = (.pointer (some ⟨g, i0 * 3, none⟩)) := h34
   simp [execOp, evR, e34, go_sem]
  refine tele_val rfl (.int .i64 (l.last.count : Int)) (fun _ _ _ => rfl) ?_ ?_
  ·rintro ρ w' he ⟨h35, -⟩
   have e35 : ρ 35 = (.pointer (some ⟨g, i0 * 3 + 1, none⟩)) := h35
   have c := (LgM.cells (HC.out.hl.ext he) HI20.out).2.1
   simp [execOp, evR, e35, c, go_sem]
  refine tele_val rfl (.bool false) (fun _ _ _ => rfl) ?_ ?_
  ·rintro ρ w' he ⟨h36, -⟩
   have e36 : ρ 36 = (.int .i64 (l.last.count : Int)) := h36
   simp [execOp, evR, e36, go_sem]
   omega
  refine tele_move rfl (.inl rfl) rfl (isV (.bool false)) (fun ρ w' h => h) ?_
  refine tele_pass rfl (fun ρ w' hk => by obtain ⟨_, hg, -⟩ := hk; have eg : ρ 38 = (.bool false) := hg; simp [wantedR, Region.wanted, asBoolR, eg]) ?_
  refine tele_pass rfl (fun ρ w' hk => by obtain ⟨_, hg, -⟩ := hk; have eg : ρ 38 = (.bool false) := hg; simp [wantedR, Region.wanted, asBoolR, eg]) ?_
  refine tele_pass rfl (fun ρ w' hk => by obtain ⟨_, hg, -⟩ := hk; have eg : ρ 38 = (.bool false) := hg; simp [wantedR, Region.wanted, asBoolR, eg]) ?_
  refine tele_pass rfl (fun ρ w' hk => by obtain ⟨_, hg, -⟩ := hk; have eg : ρ 38 = (.bool false) := hg; simp [wantedR, Region.wanted, asBoolR, eg]) ?_
  refine tele_pass rfl (fun ρ w' hk => by obtain ⟨_, hg, -⟩ := hk; have eg : ρ 38 = (.bool false) := hg; simp [wantedR, Region.wanted, asBoolR, eg]) ?_
  refine tele_pass rfl (fun ρ w' hk => by obtain ⟨_, hg, -⟩ := hk; have eg : ρ 38 = (.bool false) := hg; simp [wantedR, Region.wanted, asBoolR, eg]) ?_
  refine tele_pass rfl (fun ρ w' hk => by obtain ⟨_, _, hg, -⟩ := hk; have eg : ρ 38 = (.bool false) := hg; simp [wantedR, Region.wanted, asBoolR, eg]) ?_
  refine tele_pass rfl (fun ρ w' hk => by obtain ⟨_, hg, -⟩ := hk; have eg : ρ 38 = (.bool false) := hg; simp [wantedR, Region.wanted, asBoolR, eg]) ?_
  refine tele_pass rfl (fun ρ w' hk => by obtain ⟨_, hg, -⟩ := hk; have eg : ρ 38 = (.bool false) := hg; simp [wantedR, Region.wanted, asBoolR, eg]) ?_
  refine tele_pass rfl (fun ρ w' hk => by obtain ⟨_, hg, -⟩ := hk; have eg : ρ 38 = (.bool false) := hg; simp [wantedR, Region.wanted, asBoolR, eg]) ?_
  refine tele_pass rfl (fun ρ w' hk => by obtain ⟨_, hg, -⟩ := hk; have eg : ρ 38 = (.bool false) := hg; simp [wantedR, Region.wanted, asBoolR, eg]) ?_
  refine tele_pass rfl (fun ρ w' hk => by obtain ⟨_, _, hg, -⟩ := hk; have eg : ρ 38 = (.bool false) := hg; simp [wantedR, Region.wanted, asBoolR, eg]) ?_
  refine tele_val rfl (.bool false) (fun _ _ _ => rfl) ?_ ?_
  ·rintro ρ w' he ⟨h38, h50, -⟩
   have e38 : ρ 38 = (.bool false) := h38
   have e50 : ρ 50 = undef := h50
   simp [execOp, evR, e38, e50, go_sem]
  refine tele_nil ?_
  rintro ρ w' hext ⟨f51, f50, f49, f48, f47, f46, f45, f44, f43, f42, f41, f40, f39, f38, f37, f36, f35, f34, f33, -⟩
  replace f51 : ρ 51 = (.bool false) := f51
  simp only [puts, Act.put, List.setIfInBounds_toArray, List.set_cons_zero, List.set_cons_succ]
  rw [f51]
  clear f33 f34 f35 f36 f37 f38 f39 f40 f41 f42 f43 f44 f45 f46 f47 f48 f49 f50 f51
  replace HC := Lib.hid (HC.out.ext hext)
  replace HK := Lib.hid (HK.out.ext hext)
  replace HB := Lib.hid (HB.out.ext hext)
  replace HFB := Lib.hid (show ∀ j, (Value.slice A2 n2 c2).ownBlock = some j → j < w'.heap.size ∧ ¬ cfp bd bl bm pl d ms (.slice (some ⟨g, 0, none⟩) l.segs.length cv) j from fun j hj => ⟨Nat.lt_of_lt_of_le (HFB.out j hj).1 hext.size, (HFB.out j hj).2⟩)
  clear hext HI20 HW45
  obtain ⟨i, hi⟩ : ∃ i, i = l.segs.length - 1 := ⟨_, rfl⟩
  have hi2 := Lg.last_at HNE.out
  rw [← hi] at hi2
  have HI := Lib.hid hi
  have HI2 := Lib.hid hi2
  have HLA := Lib.hid (wlast_any HC.out.hl HNE.out)
  rw [← hi] at HLA
  clear hi hi2
  go_wp2_with fail
  refine HLA.out.mono ?_
  rintro e w3 ⟨rfl, hx3⟩
  replace HC := Lib.hid (HC.out.ext hx3)
  replace HK := Lib.hid (HK.out.ext hx3)
  replace HB := Lib.hid (HB.out.ext hx3)
  replace HFB := Lib.hid (show ∀ j, (Value.slice A2 n2 c2).ownBlock = some j → j < w3.heap.size ∧ ¬ cfp bd bl bm pl d ms (.slice (some ⟨g, 0, none⟩) l.segs.length cv) j from fun j hj => ⟨Nat.lt_of_lt_of_le (HFB.out j hj).1 hx3.size, (HFB.out j hj).2⟩)
  clear HLA hx3
  go_wp2_with fail
  refine wp_region_tok [false, false, false, false, false, false, false, false, true, false, true, true, false] (Kb (FFd w3 bd bm pl d ms)) (fun c w => if c < 2 then DkM W0.heap.size w bd bm pl d ms else ∃ pl2 ms2, DkM W0.heap.size w bd bm pl2 (dAppend d (wname (l.last.frm : Int)) (wrap rec)).1 ms2 ∧ ∀ k, dall bd bm pl2 (dAppend d (wname (l.last.frm : Int)) (wrap rec)).1 ms2 k → FFd w3 bd bm pl d ms k) 3 (by kernel_rfl) (by kernel_rfl) (by kernel_rfl) (by kernel_rfl) (preKb' _) (Kb.of_ext (ext_drew w3)) (HC.out.hd.ext (ext_drew w3)) ?_
  refine tok_val rfl (.pointer (some ⟨bl, 0, none⟩)) (fun _ _ _ => rfl) ?_ ?_
  ·rintro ρ w' he ⟨h0, -⟩
   have e0 : ρ 0 = .pointer (some ⟨bl, 0, none⟩) := h0
   simp [execOp, evR, e0, go_sem]
  refine tok_val rfl (.pointer (some ⟨bl, 0, none⟩)) (fun _ _ _ => rfl) ?_ ?_
  ·rintro ρ w' he ⟨h61, -⟩
   have e61 : ρ 61 = .pointer (some ⟨bl, 0, none⟩) := h61
   simp [execOp, evR, e61, go_sem]
  refine tok_val rfl (.pointer (some ⟨bl, 1, none⟩)) (fun _ _ _ => rfl) ?_ ?_
  ·rintro ρ w' he ⟨h62, -⟩
   have e62 : ρ 62 = .pointer (some ⟨bl, 0, none⟩) := h62
   simp [execOp, evR, e62, go_sem]
  refine tok_val rfl (.pointer (some ⟨bd, 0, none⟩)) (fun _ _ _ => rfl) ?_ ?_
  ·rintro ρ w' he ⟨h63, -⟩
   have e63 : ρ 63 = .pointer (some ⟨bl, 1, none⟩) := h63
   have c := (HC.out.log he).str.blk.cell (i := 1) rfl
   simp [execOp, evR, e63, c, go_sem]
  refine tok_val rfl (.pointer (some ⟨g, i * 3, none⟩)) (fun _ _ _ => rfl) ?_ ?_
  ·rintro ρ w' he ⟨h10, -⟩
   have e10 : ρ 10 = .pointer (some ⟨g, i * 3, none⟩) := h10
   simp [execOp, evR, e10, go_sem]
  refine tok_val rfl (.pointer (some ⟨g, i * 3, none⟩)) (fun _ _ _ => rfl) ?_ ?_
  ·rintro ρ w' he ⟨h65, -⟩
   have e65 : ρ 65 = .pointer (some ⟨g, i * 3, none⟩) := h65
   simp [execOp, evR, e65, go_sem]
  refine tok_val rfl (.pointer (some ⟨g, i * 3, none⟩)) (fun _ _ _ => rfl) ?_ ?_
  ·rintro ρ w' he ⟨h66, -⟩
   have e66 : ρ 66 = .pointer (some ⟨g, i * 3, none⟩) := h66
   simp [execOp, evR, e66, go_sem]
  refine tok_val rfl (.int .i64 (l.last.frm : Int)) (fun _ _ _ => rfl) ?_ ?_
  ·rintro ρ w' he ⟨h67, -⟩
   have e67 : ρ 67 = .pointer (some ⟨g, i * 3, none⟩) := h67
   have c := (LgM.cells (HC.out.log he) HI2.out).1
   simp [execOp, evR, e67, c, go_sem]
  refine tok_call rfl rfl Tryz.func38 (by kernel_rfl) (fun v _ => v = .string ⟨(wname (l.last.frm : Int)).toArray⟩) (fun _ _ _ h _ => h) (fun _ _ _ => rfl) ?_ ?_
  ·rintro ρ w' he ht ⟨h68, -⟩
   have e68 : ρ 68 = .int .i64 (l.last.frm : Int) := h68
   simp only [evR, List.map_toArray, List.map_cons, List.map_nil, e68]
   have hp : DkM W0.heap.size w' bd bm pl d ms := ht
   refine (wName_any ((l.last.frm : Int) : Int) w' (HC.out.tb he)).mono ?_
   rintro e w2 ⟨rfl, hx2⟩
   exact ⟨_, rfl, Kb.of_ext hx2, rfl, hp.ext hx2⟩
  refine tok_val rfl (.slice A2 n2 c2) (fun _ _ _ => rfl) ?_ ?_
  ·rintro ρ w' he ⟨h7, -⟩
   have e7 : ρ 7 = .slice A2 n2 c2 := h7
   simp [execOp, evR, e7, go_sem]
  refine tok_call rfl rfl Tryz.func47 (by kernel_rfl) (fun v _ => v = .int .i64 ((dAppend d (wname (l.last.frm : Int)) (wrap rec)).2 : Int)) (fun _ _ _ h _ => h) (fun _ _ _ => rfl) ?_ ?_
  ·rintro ρ w' he ht ⟨h64, h69, h70, -⟩
   have e64 : ρ 64 = .pointer (some ⟨bd, 0, none⟩) := h64
   have e69 : ρ 69 = .string ⟨(wname (l.last.frm : Int)).toArray⟩ := h69
   have e70 : ρ 70 = .slice A2 n2 c2 := h70
   simp only [evR, List.map_toArray, List.map_cons, List.map_nil, e64, e69, e70]
   have hp : DkM W0.heap.size w' bd bm pl d ms := ht
   refine (append_any hp HOK.out HSM.out (HC.out.ext_ he).size (wname (l.last.frm : Int)) (Nat.le_trans (wname_len _) (by decide)) (HB.out.kb he (fun j hj hq => hq.elim (fun h => (HFB.out j hj).2 (.inl h)) (fun hs => Nat.not_lt.2 hs (HFB.out j hj).1)))).mono ?_
   rintro e w2 hq
   exact tok_disk he hq
  refine tok_call rfl rfl Tryz.func46 (by kernel_rfl) (fun v _ => v = .int .i64 (didE (dAppend d (wname (l.last.frm : Int)) (wrap rec)).2 : Int)) (fun _ _ _ h _ => h) (fun _ _ _ => rfl) ?_ ?_
  ·rintro ρ w' he ht ⟨h71, -⟩
   have e71 : ρ 71 = .int .i64 ((dAppend d (wname (l.last.frm : Int)) (wrap rec)).2 : Int) := h71
   simp only [evR, List.map_toArray, List.map_cons, List.map_nil, e71]
   have hp : ∃ pl2 ms2, DkM W0.heap.size w' bd bm pl2 (dAppend d (wname (l.last.frm : Int)) (wrap rec)).1 ms2 ∧ ∀ k, dall bd bm pl2 (dAppend d (wname (l.last.frm : Int)) (wrap rec)).1 ms2 k → FFd w3 bd bm pl d ms k := ht
   refine (did_any (dAppend d (wname (l.last.frm : Int)) (wrap rec)).2 w').mono ?_
   rintro e w2 ⟨rfl, rfl⟩
   exact ⟨_, rfl, Kb.refl _ _, rfl, hp⟩
  refine tok_val rfl (.int .i64 (didE (dAppend d (wname (l.last.frm : Int)) (wrap rec)).2 : Int)) (fun _ _ _ => rfl) ?_ ?_
  ·rintro ρ w' he ⟨h72, -⟩
   have e72 : ρ 72 = .int .i64 (didE (dAppend d (wname (l.last.frm : Int)) (wrap rec)).2 : Int) := h72
   simp [execOp, evR, e72, go_sem]
  refine tok_nil ?_
  rintro ρ w' hle htk ⟨f11, f72, f71, f70, f69, f68, f67, f66, f65, f64, f63, f62, f61, -⟩ -
  replace f11 : ρ 11 = .int .i64 (didE (dAppend d (wname (l.last.frm : Int)) (wrap rec)).2 : Int) := f11
  simp only [puts, Act.put, List.setIfInBounds_toArray, List.set_cons_zero, List.set_cons_succ]
  rw [f11]
  clear f11 f61 f62 f63 f64 f65 f66 f67 f68 f69 f70 f71 f72
  obtain ⟨pl2, ms2, hd2, hf2⟩ := (show ∃ pl2 ms2, DkM W0.heap.size w' bd bm pl2 (dAppend d (wname (l.last.frm : Int)) (wrap rec)).1 ms2 ∧ ∀ k, dall bd bm pl2 (dAppend d (wname (l.last.frm : Int)) (wrap rec)).1 ms2 k → FFd w3 bd bm pl d ms k from htk)
  obtain ⟨hc2, hs2⟩ := HC.out.disk hle hd2 hf2
  have HS2 := Lib.hid (HK.out.trans hs2)
  have HC2 := Lib.hid hc2
  replace HWP := Lib.hid (HWP.out.trans (show wPut d l (wrap rec) = if didE (dAppend d (wname (l.last.frm : Int)) (wrap rec)).2 ≠ 0 then (((dAppend d (wname (l.last.frm : Int)) (wrap rec)).1, l), 0, didE (dAppend d (wname (l.last.frm : Int)) (wrap rec)).2) else (((dAppend d (wname (l.last.frm : Int)) (wrap rec)).1, l.up (wrap rec).length), (l.up (wrap rec).length).next - 1, 0) from rfl))
  clear hd2 hf2 hs2 hc2 hle htk
  generalize dAppend d (wname (l.last.frm : Int)) (wrap rec) = x at *
  generalize didE x.2 = m at *
  by_cases hm : m = 0
  rotate_left
  ·have hm1 : ¬ (m : Int) = 0 := by omega
   rw [if_pos hm] at HWP
   clear hm
   go_wp2_with fail
   go_ret2
   rw [HWP.out]
   exact ⟨rfl, HS2.out.done HC2.out.dl⟩
  ·subst hm
   rw [if_neg (by omega)] at HWP
   have c1 := (LgM.cells HC2.out.hl HI2.out).2.1
   have c2b := (LgM.cells HC2.out.hl HI2.out).2.2
   have hw1 : IntKind.i64.wrap ((l.last.count : Int) + 1) = ((l.last.count + 1 : Nat) : Int) := by rw [IntWalk.i64_in _ (by have := HNX.out; unfold Lg.next at this; omega)]; omega
   have hw2 : IntKind.i64.wrap ((l.last.bytes : Int) + (n2 : Int)) = ((l.last.bytes + n2 : Nat) : Int) := by rw [IntWalk.i64_in _ (by have := HBY.out; have := HN2L.out; omega)]; omega
   obtain ⟨c22, hup⟩ := LgM.up HC2.out.hl HNE.out n2 HI.out
   have t1 := HC2.out.hl.row.frozenAt (i * 3 + 1)
   have t2 : (w'.setCell ⟨g, i * 3 + 1, none⟩ (.int .i64 ((l.last.count + 1 : Nat) : Int))).frozen? ⟨g, i * 3 + 2, none⟩ = false := by
    have := HC2.out.hl.row.frozenAt (i * 3 + 2)
    simpa using this
   obtain ⟨hue, hul, hula⟩ := Lg.up_segs l n2 HNE.out
   have hunx := Lg.up_next l n2 HNE.out
   have hw3 : IntKind.i64.wrap (((l.up n2).next : Int) - 1) = (((l.up n2).next - 1 : Nat) : Int) := by rw [IntWalk.i64_in _ (by have := HNX.out; omega)]; omega
   have hkn := wnext_any hup hue (by have := HNX.out; omega)
   have HKN := Lib.hid hkn
   obtain ⟨hc4, hs4⟩ := HC2.out.put hup ((Kb.set _ w' g (i * 3 + 1) _ (.inr rfl)).trans (Kb.set (lall bl (.slice (some ⟨g, 0, none⟩) l.segs.length cv)) _ g (i * 3 + 2) _ (.inr rfl)) (fun _ h => .inl h)) (fun _ h => .inl h)
   have HS4 := Lib.hid (HS2.out.trans hs4)
   have HC4 := Lib.hid hc4
   rw [HN2.out] at HWP
   have HUE := Lib.hid hue
   obtain ⟨L2, hL2⟩ : ∃ L2, L2 = l.up n2 := ⟨_, rfl⟩
   rw [← hL2] at HKN HC4 HWP hw3
   clear hup hue hul hula hunx hkn hc4 hs4 hL2 HI2 HI HUE
   generalize l.last.count + 1 = q1 at *
   generalize l.last.bytes + n2 = q2 at *
   generalize l.last.count = q3 at *
   generalize l.last.bytes = q4 at *
   generalize L2.next - 1 = q5 at *
   generalize L2.next = q6 at *
   go_wp2_with fail
   refine HKN.out.mono ?_
   rintro e w5 ⟨rfl, hx5⟩
   go_wp2_with fail
   go_ret2
   rw [HWP.out]
   exact ⟨rfl, (HS4.out.ext hx5).done (HC4.out.dl.ext hx5)⟩
 by_cases hfull : l.size < l.last.bytes + n2
 rotate_left
 ·have HWP := Lib.hid (HAU.out.trans (if_neg (fun h => hfull h.2)))
  refine wp_region_mono (by kernel_rfl) (by kernel_rfl) ?_
  refine tele_move rfl (.inl rfl) rfl (isV (.pointer (some ⟨g, i0 * 3, none⟩))) (fun ρ w' h => h) ?_
  refine tele_val rfl (.pointer (some ⟨g, i0 * 3, none⟩)) (fun _ _ _ => rfl) ?_ ?_
  ·rintro ρ w' he ⟨h33, -⟩
   have e33 : ρ 33 = (.pointer (some ⟨g, i0 * 3, none⟩)) := h33
   simp [execOp, evR, e33, go_sem]
  refine tele_val rfl (.pointer (some ⟨g, i0 * 3 + 1, none⟩)) (fun _ _ _ => rfl) ?_ ?_
  ·rintro ρ w' he ⟨h34, -⟩
   have e34 : ρ 34 = (.pointer (some ⟨g, i0 * 3, none⟩)) := h34
   simp [execOp, evR, e34, go_sem]
  refine tele_val rfl (.int .i64 (l.last.count : Int)) (fun _ _ _ => rfl) ?_ ?_
  ·rintro ρ w' he ⟨h35, -⟩
   have e35 : ρ 35 = (.pointer (some ⟨g, i0 * 3 + 1, none⟩)) := h35
   have c := (LgM.cells (HC.out.hl.ext he) HI20.out).2.1
   simp [execOp, evR, e35, c, go_sem]
  refine tele_val rfl (.bool true) (fun _ _ _ => rfl) ?_ ?_
  ·rintro ρ w' he ⟨h36, -⟩
   have e36 : ρ 36 = (.int .i64 (l.last.count : Int)) := h36
   simp [execOp, evR, e36, go_sem]
   omega
  refine tele_move rfl (.inl rfl) rfl (isV (.bool true)) (fun ρ w' h => h) ?_
  refine tele_val rfl ((.pointer (some ⟨g, i0 * 3, none⟩))) (fun ρ w' hk => by obtain ⟨_, hg, -⟩ := hk; have eg : ρ 38 = (.bool true) := hg; simp [wantedR, Region.wanted, asBoolR, eg]) ?_ ?_
  ·rintro ρ w' he ⟨h8, -⟩
   have e8 : ρ 8 = (.pointer (some ⟨g, i0 * 3, none⟩)) := h8
   simp [execOp, evR, e8]
  refine tele_val rfl (.pointer (some ⟨g, i0 * 3, none⟩)) (fun ρ w' hk => by obtain ⟨_, hg, -⟩ := hk; have eg : ρ 38 = (.bool true) := hg; simp [wantedR, Region.wanted, asBoolR, eg]) ?_ ?_
  ·rintro ρ w' he ⟨h39, -⟩
   have e39 : ρ 39 = (.pointer (some ⟨g, i0 * 3, none⟩)) := h39
   simp [execOp, evR, e39, go_sem]
  refine tele_val rfl (.pointer (some ⟨g, i0 * 3 + 2, none⟩)) (fun ρ w' hk => by obtain ⟨_, hg, -⟩ := hk; have eg : ρ 38 = (.bool true) := hg; simp [wantedR, Region.wanted, asBoolR, eg]) ?_ ?_
  ·rintro ρ w' he ⟨h40, -⟩
   have e40 : ρ 40 = (.pointer (some ⟨g, i0 * 3, none⟩)) := h40
   simp [execOp, evR, e40, go_sem]
  refine tele_val rfl (.int .i64 (l.last.bytes : Int)) (fun ρ w' hk => by obtain ⟨_, hg, -⟩ := hk; have eg : ρ 38 = (.bool true) := hg; simp [wantedR, Region.wanted, asBoolR, eg]) ?_ ?_
  ·rintro ρ w' he ⟨h41, -⟩
   have e41 : ρ 41 = (.pointer (some ⟨g, i0 * 3 + 2, none⟩)) := h41
   have c := (LgM.cells (HC.out.hl.ext he) HI20.out).2.2
   simp [execOp, evR, e41, c, go_sem]
  refine tele_val rfl ((.slice A2 n2 c2)) (fun ρ w' hk => by obtain ⟨_, hg, -⟩ := hk; have eg : ρ 38 = (.bool true) := hg; simp [wantedR, Region.wanted, asBoolR, eg]) ?_ ?_
  ·rintro ρ w' he ⟨h7, -⟩
   have e7 : ρ 7 = (.slice A2 n2 c2) := h7
   simp [execOp, evR, e7]
  refine tele_val rfl (.int .i64 (n2 : Int)) (fun ρ w' hk => by obtain ⟨_, hg, -⟩ := hk; have eg : ρ 38 = (.bool true) := hg; simp [wantedR, Region.wanted, asBoolR, eg]) ?_ ?_
  ·rintro ρ w' he ⟨h43, -⟩
   have e43 : ρ 43 = (.slice A2 n2 c2) := h43
   simp [execOp, evR, e43, go_sem]
  refine tele_val rfl (.int .i64 ((l.last.bytes : Int) + (n2 : Int))) (fun ρ w' hk => by obtain ⟨_, _, hg, -⟩ := hk; have eg : ρ 38 = (.bool true) := hg; simp [wantedR, Region.wanted, asBoolR, eg]) ?_ ?_
  ·rintro ρ w' he ⟨h42, h44, -⟩
   have e42 : ρ 42 = (.int .i64 (l.last.bytes : Int)) := h42
   have e44 : ρ 44 = (.int .i64 (n2 : Int)) := h44
   have hw := HW45.out
   simp [execOp, evR, e42, e44, hw, go_sem]
  refine tele_val rfl ((.pointer (some ⟨bl, 0, none⟩))) (fun ρ w' hk => by obtain ⟨_, hg, -⟩ := hk; have eg : ρ 38 = (.bool true) := hg; simp [wantedR, Region.wanted, asBoolR, eg]) ?_ ?_
  ·rintro ρ w' he ⟨h0, -⟩
   have e0 : ρ 0 = (.pointer (some ⟨bl, 0, none⟩)) := h0
   simp [execOp, evR, e0]
  refine tele_val rfl (.pointer (some ⟨bl, 0, none⟩)) (fun ρ w' hk => by obtain ⟨_, hg, -⟩ := hk; have eg : ρ 38 = (.bool true) := hg; simp [wantedR, Region.wanted, asBoolR, eg]) ?_ ?_
  ·rintro ρ w' he ⟨h46, -⟩
   have e46 : ρ 46 = (.pointer (some ⟨bl, 0, none⟩)) := h46
   simp [execOp, evR, e46, go_sem]
  refine tele_val rfl (.pointer (some ⟨bl, 2, none⟩)) (fun ρ w' hk => by obtain ⟨_, hg, -⟩ := hk; have eg : ρ 38 = (.bool true) := hg; simp [wantedR, Region.wanted, asBoolR, eg]) ?_ ?_
  ·rintro ρ w' he ⟨h47, -⟩
   have e47 : ρ 47 = (.pointer (some ⟨bl, 0, none⟩)) := h47
   simp [execOp, evR, e47, go_sem]
  refine tele_val rfl (.int .i64 (l.size : Int)) (fun ρ w' hk => by obtain ⟨_, hg, -⟩ := hk; have eg : ρ 38 = (.bool true) := hg; simp [wantedR, Region.wanted, asBoolR, eg]) ?_ ?_
  ·rintro ρ w' he ⟨h48, -⟩
   have e48 : ρ 48 = (.pointer (some ⟨bl, 2, none⟩)) := h48
   have c := (HC.out.hl.ext he).str.blk.cell (i := 2) rfl
   simp [execOp, evR, e48, c, go_sem]
  refine tele_val rfl (.bool false) (fun ρ w' hk => by obtain ⟨_, _, hg, -⟩ := hk; have eg : ρ 38 = (.bool true) := hg; simp [wantedR, Region.wanted, asBoolR, eg]) ?_ ?_
  ·rintro ρ w' he ⟨h45, h49, -⟩
   have e45 : ρ 45 = (.int .i64 ((l.last.bytes : Int) + (n2 : Int))) := h45
   have e49 : ρ 49 = (.int .i64 (l.size : Int)) := h49
   simp [execOp, evR, e45, e49, go_sem]
   omega
  refine tele_val rfl (.bool false) (fun _ _ _ => rfl) ?_ ?_
  ·rintro ρ w' he ⟨h38, h50, -⟩
   have e38 : ρ 38 = (.bool true) := h38
   have e50 : ρ 50 = (.bool false) := h50
   simp [execOp, evR, e38, e50, go_sem]
  refine tele_nil ?_
  rintro ρ w' hext ⟨f51, f50, f49, f48, f47, f46, f45, f44, f43, f42, f41, f40, f39, f38, f37, f36, f35, f34, f33, -⟩
  replace f51 : ρ 51 = (.bool false) := f51
  simp only [puts, Act.put, List.setIfInBounds_toArray, List.set_cons_zero, List.set_cons_succ]
  rw [f51]
  clear f33 f34 f35 f36 f37 f38 f39 f40 f41 f42 f43 f44 f45 f46 f47 f48 f49 f50 f51
  replace HC := Lib.hid (HC.out.ext hext)
  replace HK := Lib.hid (HK.out.ext hext)
  replace HB := Lib.hid (HB.out.ext hext)
  replace HFB := Lib.hid (show ∀ j, (Value.slice A2 n2 c2).ownBlock = some j → j < w'.heap.size ∧ ¬ cfp bd bl bm pl d ms (.slice (some ⟨g, 0, none⟩) l.segs.length cv) j from fun j hj => ⟨Nat.lt_of_lt_of_le (HFB.out j hj).1 hext.size, (HFB.out j hj).2⟩)
  clear hext HI20 HW45
  obtain ⟨i, hi⟩ : ∃ i, i = l.segs.length - 1 := ⟨_, rfl⟩
  have hi2 := Lg.last_at HNE.out
  rw [← hi] at hi2
  have HI := Lib.hid hi
  have HI2 := Lib.hid hi2
  have HLA := Lib.hid (wlast_any HC.out.hl HNE.out)
  rw [← hi] at HLA
  clear hi hi2
  go_wp2_with fail
  refine HLA.out.mono ?_
  rintro e w3 ⟨rfl, hx3⟩
  replace HC := Lib.hid (HC.out.ext hx3)
  replace HK := Lib.hid (HK.out.ext hx3)
  replace HB := Lib.hid (HB.out.ext hx3)
  replace HFB := Lib.hid (show ∀ j, (Value.slice A2 n2 c2).ownBlock = some j → j < w3.heap.size ∧ ¬ cfp bd bl bm pl d ms (.slice (some ⟨g, 0, none⟩) l.segs.length cv) j from fun j hj => ⟨Nat.lt_of_lt_of_le (HFB.out j hj).1 hx3.size, (HFB.out j hj).2⟩)
  clear HLA hx3
  go_wp2_with fail
  refine wp_region_tok [false, false, false, false, false, false, false, false, true, false, true, true, false] (Kb (FFd w3 bd bm pl d ms)) (fun c w => if c < 2 then DkM W0.heap.size w bd bm pl d ms else ∃ pl2 ms2, DkM W0.heap.size w bd bm pl2 (dAppend d (wname (l.last.frm : Int)) (wrap rec)).1 ms2 ∧ ∀ k, dall bd bm pl2 (dAppend d (wname (l.last.frm : Int)) (wrap rec)).1 ms2 k → FFd w3 bd bm pl d ms k) 3 (by kernel_rfl) (by kernel_rfl) (by kernel_rfl) (by kernel_rfl) (preKb' _) (Kb.of_ext (ext_drew w3)) (HC.out.hd.ext (ext_drew w3)) ?_
  refine tok_val rfl (.pointer (some ⟨bl, 0, none⟩)) (fun _ _ _ => rfl) ?_ ?_
  ·rintro ρ w' he ⟨h0, -⟩
   have e0 : ρ 0 = .pointer (some ⟨bl, 0, none⟩) := h0
   simp [execOp, evR, e0, go_sem]
  refine tok_val rfl (.pointer (some ⟨bl, 0, none⟩)) (fun _ _ _ => rfl) ?_ ?_
  ·rintro ρ w' he ⟨h61, -⟩
   have e61 : ρ 61 = .pointer (some ⟨bl, 0, none⟩) := h61
   simp [execOp, evR, e61, go_sem]
  refine tok_val rfl (.pointer (some ⟨bl, 1, none⟩)) (fun _ _ _ => rfl) ?_ ?_
  ·rintro ρ w' he ⟨h62, -⟩
   have e62 : ρ 62 = .pointer (some ⟨bl, 0, none⟩) := h62
   simp [execOp, evR, e62, go_sem]
  refine tok_val rfl (.pointer (some ⟨bd, 0, none⟩)) (fun _ _ _ => rfl) ?_ ?_
  ·rintro ρ w' he ⟨h63, -⟩
   have e63 : ρ 63 = .pointer (some ⟨bl, 1, none⟩) := h63
   have c := (HC.out.log he).str.blk.cell (i := 1) rfl
   simp [execOp, evR, e63, c, go_sem]
  refine tok_val rfl (.pointer (some ⟨g, i * 3, none⟩)) (fun _ _ _ => rfl) ?_ ?_
  ·rintro ρ w' he ⟨h10, -⟩
   have e10 : ρ 10 = .pointer (some ⟨g, i * 3, none⟩) := h10
   simp [execOp, evR, e10, go_sem]
  refine tok_val rfl (.pointer (some ⟨g, i * 3, none⟩)) (fun _ _ _ => rfl) ?_ ?_
  ·rintro ρ w' he ⟨h65, -⟩
   have e65 : ρ 65 = .pointer (some ⟨g, i * 3, none⟩) := h65
   simp [execOp, evR, e65, go_sem]
  refine tok_val rfl (.pointer (some ⟨g, i * 3, none⟩)) (fun _ _ _ => rfl) ?_ ?_
  ·rintro ρ w' he ⟨h66, -⟩
   have e66 : ρ 66 = .pointer (some ⟨g, i * 3, none⟩) := h66
   simp [execOp, evR, e66, go_sem]
  refine tok_val rfl (.int .i64 (l.last.frm : Int)) (fun _ _ _ => rfl) ?_ ?_
  ·rintro ρ w' he ⟨h67, -⟩
   have e67 : ρ 67 = .pointer (some ⟨g, i * 3, none⟩) := h67
   have c := (LgM.cells (HC.out.log he) HI2.out).1
   simp [execOp, evR, e67, c, go_sem]
  refine tok_call rfl rfl Tryz.func38 (by kernel_rfl) (fun v _ => v = .string ⟨(wname (l.last.frm : Int)).toArray⟩) (fun _ _ _ h _ => h) (fun _ _ _ => rfl) ?_ ?_
  ·rintro ρ w' he ht ⟨h68, -⟩
   have e68 : ρ 68 = .int .i64 (l.last.frm : Int) := h68
   simp only [evR, List.map_toArray, List.map_cons, List.map_nil, e68]
   have hp : DkM W0.heap.size w' bd bm pl d ms := ht
   refine (wName_any ((l.last.frm : Int) : Int) w' (HC.out.tb he)).mono ?_
   rintro e w2 ⟨rfl, hx2⟩
   exact ⟨_, rfl, Kb.of_ext hx2, rfl, hp.ext hx2⟩
  refine tok_val rfl (.slice A2 n2 c2) (fun _ _ _ => rfl) ?_ ?_
  ·rintro ρ w' he ⟨h7, -⟩
   have e7 : ρ 7 = .slice A2 n2 c2 := h7
   simp [execOp, evR, e7, go_sem]
  refine tok_call rfl rfl Tryz.func47 (by kernel_rfl) (fun v _ => v = .int .i64 ((dAppend d (wname (l.last.frm : Int)) (wrap rec)).2 : Int)) (fun _ _ _ h _ => h) (fun _ _ _ => rfl) ?_ ?_
  ·rintro ρ w' he ht ⟨h64, h69, h70, -⟩
   have e64 : ρ 64 = .pointer (some ⟨bd, 0, none⟩) := h64
   have e69 : ρ 69 = .string ⟨(wname (l.last.frm : Int)).toArray⟩ := h69
   have e70 : ρ 70 = .slice A2 n2 c2 := h70
   simp only [evR, List.map_toArray, List.map_cons, List.map_nil, e64, e69, e70]
   have hp : DkM W0.heap.size w' bd bm pl d ms := ht
   refine (append_any hp HOK.out HSM.out (HC.out.ext_ he).size (wname (l.last.frm : Int)) (Nat.le_trans (wname_len _) (by decide)) (HB.out.kb he (fun j hj hq => hq.elim (fun h => (HFB.out j hj).2 (.inl h)) (fun hs => Nat.not_lt.2 hs (HFB.out j hj).1)))).mono ?_
   rintro e w2 hq
   exact tok_disk he hq
  refine tok_call rfl rfl Tryz.func46 (by kernel_rfl) (fun v _ => v = .int .i64 (didE (dAppend d (wname (l.last.frm : Int)) (wrap rec)).2 : Int)) (fun _ _ _ h _ => h) (fun _ _ _ => rfl) ?_ ?_
  ·rintro ρ w' he ht ⟨h71, -⟩
   have e71 : ρ 71 = .int .i64 ((dAppend d (wname (l.last.frm : Int)) (wrap rec)).2 : Int) := h71
   simp only [evR, List.map_toArray, List.map_cons, List.map_nil, e71]
   have hp : ∃ pl2 ms2, DkM W0.heap.size w' bd bm pl2 (dAppend d (wname (l.last.frm : Int)) (wrap rec)).1 ms2 ∧ ∀ k, dall bd bm pl2 (dAppend d (wname (l.last.frm : Int)) (wrap rec)).1 ms2 k → FFd w3 bd bm pl d ms k := ht
   refine (did_any (dAppend d (wname (l.last.frm : Int)) (wrap rec)).2 w').mono ?_
   rintro e w2 ⟨rfl, rfl⟩
   exact ⟨_, rfl, Kb.refl _ _, rfl, hp⟩
  refine tok_val rfl (.int .i64 (didE (dAppend d (wname (l.last.frm : Int)) (wrap rec)).2 : Int)) (fun _ _ _ => rfl) ?_ ?_
  ·rintro ρ w' he ⟨h72, -⟩
   have e72 : ρ 72 = .int .i64 (didE (dAppend d (wname (l.last.frm : Int)) (wrap rec)).2 : Int) := h72
   simp [execOp, evR, e72, go_sem]
  refine tok_nil ?_
  rintro ρ w' hle htk ⟨f11, f72, f71, f70, f69, f68, f67, f66, f65, f64, f63, f62, f61, -⟩ -
  replace f11 : ρ 11 = .int .i64 (didE (dAppend d (wname (l.last.frm : Int)) (wrap rec)).2 : Int) := f11
  simp only [puts, Act.put, List.setIfInBounds_toArray, List.set_cons_zero, List.set_cons_succ]
  rw [f11]
  clear f11 f61 f62 f63 f64 f65 f66 f67 f68 f69 f70 f71 f72
  obtain ⟨pl2, ms2, hd2, hf2⟩ := (show ∃ pl2 ms2, DkM W0.heap.size w' bd bm pl2 (dAppend d (wname (l.last.frm : Int)) (wrap rec)).1 ms2 ∧ ∀ k, dall bd bm pl2 (dAppend d (wname (l.last.frm : Int)) (wrap rec)).1 ms2 k → FFd w3 bd bm pl d ms k from htk)
  obtain ⟨hc2, hs2⟩ := HC.out.disk hle hd2 hf2
  have HS2 := Lib.hid (HK.out.trans hs2)
  have HC2 := Lib.hid hc2
  replace HWP := Lib.hid (HWP.out.trans (show wPut d l (wrap rec) = if didE (dAppend d (wname (l.last.frm : Int)) (wrap rec)).2 ≠ 0 then (((dAppend d (wname (l.last.frm : Int)) (wrap rec)).1, l), 0, didE (dAppend d (wname (l.last.frm : Int)) (wrap rec)).2) else (((dAppend d (wname (l.last.frm : Int)) (wrap rec)).1, l.up (wrap rec).length), (l.up (wrap rec).length).next - 1, 0) from rfl))
  clear hd2 hf2 hs2 hc2 hle htk
  generalize dAppend d (wname (l.last.frm : Int)) (wrap rec) = x at *
  generalize didE x.2 = m at *
  by_cases hm : m = 0
  rotate_left
  ·have hm1 : ¬ (m : Int) = 0 := by omega
   rw [if_pos hm] at HWP
   clear hm
   go_wp2_with fail
   go_ret2
   rw [HWP.out]
   exact ⟨rfl, HS2.out.done HC2.out.dl⟩
  ·subst hm
   rw [if_neg (by omega)] at HWP
   have c1 := (LgM.cells HC2.out.hl HI2.out).2.1
   have c2b := (LgM.cells HC2.out.hl HI2.out).2.2
   have hw1 : IntKind.i64.wrap ((l.last.count : Int) + 1) = ((l.last.count + 1 : Nat) : Int) := by rw [IntWalk.i64_in _ (by have := HNX.out; unfold Lg.next at this; omega)]; omega
   have hw2 : IntKind.i64.wrap ((l.last.bytes : Int) + (n2 : Int)) = ((l.last.bytes + n2 : Nat) : Int) := by rw [IntWalk.i64_in _ (by have := HBY.out; have := HN2L.out; omega)]; omega
   obtain ⟨c22, hup⟩ := LgM.up HC2.out.hl HNE.out n2 HI.out
   have t1 := HC2.out.hl.row.frozenAt (i * 3 + 1)
   have t2 : (w'.setCell ⟨g, i * 3 + 1, none⟩ (.int .i64 ((l.last.count + 1 : Nat) : Int))).frozen? ⟨g, i * 3 + 2, none⟩ = false := by
    have := HC2.out.hl.row.frozenAt (i * 3 + 2)
    simpa using this
   obtain ⟨hue, hul, hula⟩ := Lg.up_segs l n2 HNE.out
   have hunx := Lg.up_next l n2 HNE.out
   have hw3 : IntKind.i64.wrap (((l.up n2).next : Int) - 1) = (((l.up n2).next - 1 : Nat) : Int) := by rw [IntWalk.i64_in _ (by have := HNX.out; omega)]; omega
   have hkn := wnext_any hup hue (by have := HNX.out; omega)
   have HKN := Lib.hid hkn
   obtain ⟨hc4, hs4⟩ := HC2.out.put hup ((Kb.set _ w' g (i * 3 + 1) _ (.inr rfl)).trans (Kb.set (lall bl (.slice (some ⟨g, 0, none⟩) l.segs.length cv)) _ g (i * 3 + 2) _ (.inr rfl)) (fun _ h => .inl h)) (fun _ h => .inl h)
   have HS4 := Lib.hid (HS2.out.trans hs4)
   have HC4 := Lib.hid hc4
   rw [HN2.out] at HWP
   have HUE := Lib.hid hue
   obtain ⟨L2, hL2⟩ : ∃ L2, L2 = l.up n2 := ⟨_, rfl⟩
   rw [← hL2] at HKN HC4 HWP hw3
   clear hup hue hul hula hunx hkn hc4 hs4 hL2 HI2 HI HUE
   generalize l.last.count + 1 = q1 at *
   generalize l.last.bytes + n2 = q2 at *
   generalize l.last.count = q3 at *
   generalize l.last.bytes = q4 at *
   generalize L2.next - 1 = q5 at *
   generalize L2.next = q6 at *
   go_wp2_with fail
   refine HKN.out.mono ?_
   rintro e w5 ⟨rfl, hx5⟩
   go_wp2_with fail
   go_ret2
   rw [HWP.out]
   exact ⟨rfl, (HS4.out.ext hx5).done (HC4.out.dl.ext hx5)⟩
 replace HAU := Lib.hid (HAU.out.trans (if_pos ⟨hcnt, hfull⟩))
 refine wp_region_mono (by kernel_rfl) (by kernel_rfl) ?_
 refine tele_move rfl (.inl rfl) rfl (isV (.pointer (some ⟨g, i0 * 3, none⟩))) (fun ρ w' h => h) ?_
 refine tele_val rfl (.pointer (some ⟨g, i0 * 3, none⟩)) (fun _ _ _ => rfl) ?_ ?_
 ·rintro ρ w' he ⟨h33, -⟩
  have e33 : ρ 33 = (.pointer (some ⟨g, i0 * 3, none⟩)) := h33
  simp [execOp, evR, e33, go_sem]
 refine tele_val rfl (.pointer (some ⟨g, i0 * 3 + 1, none⟩)) (fun _ _ _ => rfl) ?_ ?_
 ·rintro ρ w' he ⟨h34, -⟩
  have e34 : ρ 34 = (.pointer (some ⟨g, i0 * 3, none⟩)) := h34
  simp [execOp, evR, e34, go_sem]
 refine tele_val rfl (.int .i64 (l.last.count : Int)) (fun _ _ _ => rfl) ?_ ?_
 ·rintro ρ w' he ⟨h35, -⟩
  have e35 : ρ 35 = (.pointer (some ⟨g, i0 * 3 + 1, none⟩)) := h35
  have c := (LgM.cells (HC.out.hl.ext he) HI20.out).2.1
  simp [execOp, evR, e35, c, go_sem]
 refine tele_val rfl (.bool true) (fun _ _ _ => rfl) ?_ ?_
 ·rintro ρ w' he ⟨h36, -⟩
  have e36 : ρ 36 = (.int .i64 (l.last.count : Int)) := h36
  simp [execOp, evR, e36, go_sem]
  omega
 refine tele_move rfl (.inl rfl) rfl (isV (.bool true)) (fun ρ w' h => h) ?_
 refine tele_val rfl ((.pointer (some ⟨g, i0 * 3, none⟩))) (fun ρ w' hk => by obtain ⟨_, hg, -⟩ := hk; have eg : ρ 38 = (.bool true) := hg; simp [wantedR, Region.wanted, asBoolR, eg]) ?_ ?_
 ·rintro ρ w' he ⟨h8, -⟩
  have e8 : ρ 8 = (.pointer (some ⟨g, i0 * 3, none⟩)) := h8
  simp [execOp, evR, e8]
 refine tele_val rfl (.pointer (some ⟨g, i0 * 3, none⟩)) (fun ρ w' hk => by obtain ⟨_, hg, -⟩ := hk; have eg : ρ 38 = (.bool true) := hg; simp [wantedR, Region.wanted, asBoolR, eg]) ?_ ?_
 ·rintro ρ w' he ⟨h39, -⟩
  have e39 : ρ 39 = (.pointer (some ⟨g, i0 * 3, none⟩)) := h39
  simp [execOp, evR, e39, go_sem]
 refine tele_val rfl (.pointer (some ⟨g, i0 * 3 + 2, none⟩)) (fun ρ w' hk => by obtain ⟨_, hg, -⟩ := hk; have eg : ρ 38 = (.bool true) := hg; simp [wantedR, Region.wanted, asBoolR, eg]) ?_ ?_
 ·rintro ρ w' he ⟨h40, -⟩
  have e40 : ρ 40 = (.pointer (some ⟨g, i0 * 3, none⟩)) := h40
  simp [execOp, evR, e40, go_sem]
 refine tele_val rfl (.int .i64 (l.last.bytes : Int)) (fun ρ w' hk => by obtain ⟨_, hg, -⟩ := hk; have eg : ρ 38 = (.bool true) := hg; simp [wantedR, Region.wanted, asBoolR, eg]) ?_ ?_
 ·rintro ρ w' he ⟨h41, -⟩
  have e41 : ρ 41 = (.pointer (some ⟨g, i0 * 3 + 2, none⟩)) := h41
  have c := (LgM.cells (HC.out.hl.ext he) HI20.out).2.2
  simp [execOp, evR, e41, c, go_sem]
 refine tele_val rfl ((.slice A2 n2 c2)) (fun ρ w' hk => by obtain ⟨_, hg, -⟩ := hk; have eg : ρ 38 = (.bool true) := hg; simp [wantedR, Region.wanted, asBoolR, eg]) ?_ ?_
 ·rintro ρ w' he ⟨h7, -⟩
  have e7 : ρ 7 = (.slice A2 n2 c2) := h7
  simp [execOp, evR, e7]
 refine tele_val rfl (.int .i64 (n2 : Int)) (fun ρ w' hk => by obtain ⟨_, hg, -⟩ := hk; have eg : ρ 38 = (.bool true) := hg; simp [wantedR, Region.wanted, asBoolR, eg]) ?_ ?_
 ·rintro ρ w' he ⟨h43, -⟩
  have e43 : ρ 43 = (.slice A2 n2 c2) := h43
  simp [execOp, evR, e43, go_sem]
 refine tele_val rfl (.int .i64 ((l.last.bytes : Int) + (n2 : Int))) (fun ρ w' hk => by obtain ⟨_, _, hg, -⟩ := hk; have eg : ρ 38 = (.bool true) := hg; simp [wantedR, Region.wanted, asBoolR, eg]) ?_ ?_
 ·rintro ρ w' he ⟨h42, h44, -⟩
  have e42 : ρ 42 = (.int .i64 (l.last.bytes : Int)) := h42
  have e44 : ρ 44 = (.int .i64 (n2 : Int)) := h44
  have hw := HW45.out
  simp [execOp, evR, e42, e44, hw, go_sem]
 refine tele_val rfl ((.pointer (some ⟨bl, 0, none⟩))) (fun ρ w' hk => by obtain ⟨_, hg, -⟩ := hk; have eg : ρ 38 = (.bool true) := hg; simp [wantedR, Region.wanted, asBoolR, eg]) ?_ ?_
 ·rintro ρ w' he ⟨h0, -⟩
  have e0 : ρ 0 = (.pointer (some ⟨bl, 0, none⟩)) := h0
  simp [execOp, evR, e0]
 refine tele_val rfl (.pointer (some ⟨bl, 0, none⟩)) (fun ρ w' hk => by obtain ⟨_, hg, -⟩ := hk; have eg : ρ 38 = (.bool true) := hg; simp [wantedR, Region.wanted, asBoolR, eg]) ?_ ?_
 ·rintro ρ w' he ⟨h46, -⟩
  have e46 : ρ 46 = (.pointer (some ⟨bl, 0, none⟩)) := h46
  simp [execOp, evR, e46, go_sem]
 refine tele_val rfl (.pointer (some ⟨bl, 2, none⟩)) (fun ρ w' hk => by obtain ⟨_, hg, -⟩ := hk; have eg : ρ 38 = (.bool true) := hg; simp [wantedR, Region.wanted, asBoolR, eg]) ?_ ?_
 ·rintro ρ w' he ⟨h47, -⟩
  have e47 : ρ 47 = (.pointer (some ⟨bl, 0, none⟩)) := h47
  simp [execOp, evR, e47, go_sem]
 refine tele_val rfl (.int .i64 (l.size : Int)) (fun ρ w' hk => by obtain ⟨_, hg, -⟩ := hk; have eg : ρ 38 = (.bool true) := hg; simp [wantedR, Region.wanted, asBoolR, eg]) ?_ ?_
 ·rintro ρ w' he ⟨h48, -⟩
  have e48 : ρ 48 = (.pointer (some ⟨bl, 2, none⟩)) := h48
  have c := (HC.out.hl.ext he).str.blk.cell (i := 2) rfl
  simp [execOp, evR, e48, c, go_sem]
 refine tele_val rfl (.bool true) (fun ρ w' hk => by obtain ⟨_, _, hg, -⟩ := hk; have eg : ρ 38 = (.bool true) := hg; simp [wantedR, Region.wanted, asBoolR, eg]) ?_ ?_
 ·rintro ρ w' he ⟨h45, h49, -⟩
  have e45 : ρ 45 = (.int .i64 ((l.last.bytes : Int) + (n2 : Int))) := h45
  have e49 : ρ 49 = (.int .i64 (l.size : Int)) := h49
  simp [execOp, evR, e45, e49, go_sem]
  omega
 refine tele_val rfl (.bool true) (fun _ _ _ => rfl) ?_ ?_
 ·rintro ρ w' he ⟨h38, h50, -⟩
  have e38 : ρ 38 = (.bool true) := h38
  have e50 : ρ 50 = (.bool true) := h50
  simp [execOp, evR, e38, e50, go_sem]
 refine tele_nil ?_
 rintro ρ w' hext ⟨f51, f50, f49, f48, f47, f46, f45, f44, f43, f42, f41, f40, f39, f38, f37, f36, f35, f34, f33, -⟩
 replace f51 : ρ 51 = (.bool true) := f51
 simp only [puts, Act.put, List.setIfInBounds_toArray, List.set_cons_zero, List.set_cons_succ]
 rw [f51]
 clear f33 f34 f35 f36 f37 f38 f39 f40 f41 f42 f43 f44 f45 f46 f47 f48 f49 f50 f51
 replace HC := Lib.hid (HC.out.ext hext)
 replace HK := Lib.hid (HK.out.ext hext)
 replace HB := Lib.hid (HB.out.ext hext)
 replace HFB := Lib.hid (show ∀ j, (Value.slice A2 n2 c2).ownBlock = some j → j < w'.heap.size ∧ ¬ cfp bd bl bm pl d ms (.slice (some ⟨g, 0, none⟩) l.segs.length cv) j from fun j hj => ⟨Nat.lt_of_lt_of_le (HFB.out j hj).1 hext.size, (HFB.out j hj).2⟩)
 clear hext HI20 HW45
 have HRO := Lib.hid (wRoll_any HC.out.dl HC.out.hx HT.out HOK.out HNE.out HPS.out (Nat.le_trans HNX.out (by decide)) HSC.out HC0.out (Nat.le_trans HLN.out (by decide)))
 have HLOW := Lib.hid HC.out.dl.low
 have HX9 := Lib.hid HC.out.hx
 have HROK := Lib.hid (wRoll_ok HOK.out l)
 have HRSM := Lib.hid ((wRoll_small HSC.out l).small (by have := HC0.out; omega))
 have HRD := Lib.hid (wRoll_done d l)
 generalize wRoll d l = y at *
 obtain ⟨⟨d1, l1⟩, n⟩ := y
 dsimp only at *
 go_wp2_with fail
 refine HRO.out.mono ?_
 rintro e w6 ⟨rfl, hs6⟩
 obtain ⟨fp1, hd1, hk1⟩ := Cont.of_dls hs6
 obtain ⟨bm1, pl1, ms1, v1, hc1, hk2⟩ := hd1.cx (hk1.low HX9.out HLOW.out) HT.out
 replace HK := Lib.hid (HK.out.trans (hk1.trans hk2))
 by_cases hn0 : n = 0
 rotate_left
 ·have hn1 : ¬ (n : Int) = 0 := by omega
  rw [if_pos hn0] at HAU
  clear hn0
  go_wp2_with fail
  go_ret2
  rw [HAU.out]
  exact ⟨rfl, HK.out.done hc1.dl⟩
 subst hn0
 replace HWP := Lib.hid (HAU.out.trans (if_neg (by simp)))
 obtain ⟨q1, q2, q3⟩ := HRD.out rfl
 have HNE1 := Lib.hid (show l1.segs ≠ [] by rw [q1]; simp)
 have hla1 : l1.last = ⟨l.next, 0, 0⟩ := Lg.last_snoc _ _ q1
 have HPS1 := Lib.hid (show 1 ≤ l1.next by unfold Lg.next; rw [hla1]; have := HPS.out; exact Nat.le_trans this (Nat.le_add_right _ _))
 have HNX1 := Lib.hid (show l1.next ≤ 8000000000000000000 by unfold Lg.next; rw [hla1]; have := HNX.out; exact this)
 have HBY1 := Lib.hid (show l1.last.bytes ≤ 1000000000000 by rw [hla1]; exact Nat.zero_le _)
 obtain ⟨g1, cv1, rfl, -⟩ := hc1.hl.slice HNE1.out
 have hfb := (hk1.trans hk2).not HFB.out
 have HFB1 := Lib.hid hfb
 have HB1 := Lib.hid (HB.out.kb hk1.kb (fun j hj => (HFB.out j hj).2))
 have HC1 := Lib.hid hc1
 clear hs6 hd1 hk1 hk2 hc1 q1 q2 q3 hla1 hfb HRO HRD HAU hcnt hfull HC HFB HB HNE HPS HNX HBY HOK HSM HSC hm2 HDL
 obtain ⟨i, hi⟩ : ∃ i, i = l1.segs.length - 1 := ⟨_, rfl⟩
 have hi2 := Lg.last_at HNE1.out
 rw [← hi] at hi2
 have HI := Lib.hid hi
 have HI2 := Lib.hid hi2
 have HLA := Lib.hid (wlast_any HC1.out.hl HNE1.out)
 rw [← hi] at HLA
 clear hi hi2
 go_wp2_with fail
 refine HLA.out.mono ?_
 rintro e w3 ⟨rfl, hx3⟩
 replace HC1 := Lib.hid (HC1.out.ext hx3)
 replace HK := Lib.hid (HK.out.ext hx3)
 replace HB1 := Lib.hid (HB1.out.ext hx3)
 replace HFB1 := Lib.hid (show ∀ j, (Value.slice A2 n2 c2).ownBlock = some j → j < w3.heap.size ∧ ¬ cfp bd bl bm1 pl1 d1 ms1 (.slice (some ⟨g1, 0, none⟩) l1.segs.length cv1) j from fun j hj => ⟨Nat.lt_of_lt_of_le (HFB1.out j hj).1 hx3.size, (HFB1.out j hj).2⟩)
 clear HLA hx3
 go_wp2_with fail
 refine wp_region_tok [false, false, false, false, false, false, false, false, true, false, true, true, false] (Kb (FFd w3 bd bm1 pl1 d1 ms1)) (fun c w => if c < 2 then DkM W0.heap.size w bd bm1 pl1 d1 ms1 else ∃ pl2 ms2, DkM W0.heap.size w bd bm1 pl2 (dAppend d1 (wname (l1.last.frm : Int)) (wrap rec)).1 ms2 ∧ ∀ k, dall bd bm1 pl2 (dAppend d1 (wname (l1.last.frm : Int)) (wrap rec)).1 ms2 k → FFd w3 bd bm1 pl1 d1 ms1 k) 3 (by kernel_rfl) (by kernel_rfl) (by kernel_rfl) (by kernel_rfl) (preKb' _) (Kb.of_ext (ext_drew w3)) (HC1.out.hd.ext (ext_drew w3)) ?_
 refine tok_val rfl (.pointer (some ⟨bl, 0, none⟩)) (fun _ _ _ => rfl) ?_ ?_
 ·rintro ρ w' he ⟨h0, -⟩
  have e0 : ρ 0 = .pointer (some ⟨bl, 0, none⟩) := h0
  simp [execOp, evR, e0, go_sem]
 refine tok_val rfl (.pointer (some ⟨bl, 0, none⟩)) (fun _ _ _ => rfl) ?_ ?_
 ·rintro ρ w' he ⟨h61, -⟩
  have e61 : ρ 61 = .pointer (some ⟨bl, 0, none⟩) := h61
  simp [execOp, evR, e61, go_sem]
 refine tok_val rfl (.pointer (some ⟨bl, 1, none⟩)) (fun _ _ _ => rfl) ?_ ?_
 ·rintro ρ w' he ⟨h62, -⟩
  have e62 : ρ 62 = .pointer (some ⟨bl, 0, none⟩) := h62
  simp [execOp, evR, e62, go_sem]
 refine tok_val rfl (.pointer (some ⟨bd, 0, none⟩)) (fun _ _ _ => rfl) ?_ ?_
 ·rintro ρ w' he ⟨h63, -⟩
  have e63 : ρ 63 = .pointer (some ⟨bl, 1, none⟩) := h63
  have c := (HC1.out.log he).str.blk.cell (i := 1) rfl
  simp [execOp, evR, e63, c, go_sem]
 refine tok_val rfl (.pointer (some ⟨g1, i * 3, none⟩)) (fun _ _ _ => rfl) ?_ ?_
 ·rintro ρ w' he ⟨h10, -⟩
  have e10 : ρ 10 = .pointer (some ⟨g1, i * 3, none⟩) := h10
  simp [execOp, evR, e10, go_sem]
 refine tok_val rfl (.pointer (some ⟨g1, i * 3, none⟩)) (fun _ _ _ => rfl) ?_ ?_
 ·rintro ρ w' he ⟨h65, -⟩
  have e65 : ρ 65 = .pointer (some ⟨g1, i * 3, none⟩) := h65
  simp [execOp, evR, e65, go_sem]
 refine tok_val rfl (.pointer (some ⟨g1, i * 3, none⟩)) (fun _ _ _ => rfl) ?_ ?_
 ·rintro ρ w' he ⟨h66, -⟩
  have e66 : ρ 66 = .pointer (some ⟨g1, i * 3, none⟩) := h66
  simp [execOp, evR, e66, go_sem]
 refine tok_val rfl (.int .i64 (l1.last.frm : Int)) (fun _ _ _ => rfl) ?_ ?_
 ·rintro ρ w' he ⟨h67, -⟩
  have e67 : ρ 67 = .pointer (some ⟨g1, i * 3, none⟩) := h67
  have c := (LgM.cells (HC1.out.log he) HI2.out).1
  simp [execOp, evR, e67, c, go_sem]
 refine tok_call rfl rfl Tryz.func38 (by kernel_rfl) (fun v _ => v = .string ⟨(wname (l1.last.frm : Int)).toArray⟩) (fun _ _ _ h _ => h) (fun _ _ _ => rfl) ?_ ?_
 ·rintro ρ w' he ht ⟨h68, -⟩
  have e68 : ρ 68 = .int .i64 (l1.last.frm : Int) := h68
  simp only [evR, List.map_toArray, List.map_cons, List.map_nil, e68]
  have hp : DkM W0.heap.size w' bd bm1 pl1 d1 ms1 := ht
  refine (wName_any ((l1.last.frm : Int) : Int) w' (HC1.out.tb he)).mono ?_
  rintro e w2 ⟨rfl, hx2⟩
  exact ⟨_, rfl, Kb.of_ext hx2, rfl, hp.ext hx2⟩
 refine tok_val rfl (.slice A2 n2 c2) (fun _ _ _ => rfl) ?_ ?_
 ·rintro ρ w' he ⟨h7, -⟩
  have e7 : ρ 7 = .slice A2 n2 c2 := h7
  simp [execOp, evR, e7, go_sem]
 refine tok_call rfl rfl Tryz.func47 (by kernel_rfl) (fun v _ => v = .int .i64 ((dAppend d1 (wname (l1.last.frm : Int)) (wrap rec)).2 : Int)) (fun _ _ _ h _ => h) (fun _ _ _ => rfl) ?_ ?_
 ·rintro ρ w' he ht ⟨h64, h69, h70, -⟩
  have e64 : ρ 64 = .pointer (some ⟨bd, 0, none⟩) := h64
  have e69 : ρ 69 = .string ⟨(wname (l1.last.frm : Int)).toArray⟩ := h69
  have e70 : ρ 70 = .slice A2 n2 c2 := h70
  simp only [evR, List.map_toArray, List.map_cons, List.map_nil, e64, e69, e70]
  have hp : DkM W0.heap.size w' bd bm1 pl1 d1 ms1 := ht
  refine (append_any hp HROK.out HRSM.out (HC1.out.ext_ he).size (wname (l1.last.frm : Int)) (Nat.le_trans (wname_len _) (by decide)) (HB1.out.kb he (fun j hj hq => hq.elim (fun h => (HFB1.out j hj).2 (.inl h)) (fun hs => Nat.not_lt.2 hs (HFB1.out j hj).1)))).mono ?_
  rintro e w2 hq
  exact tok_disk he hq
 refine tok_call rfl rfl Tryz.func46 (by kernel_rfl) (fun v _ => v = .int .i64 (didE (dAppend d1 (wname (l1.last.frm : Int)) (wrap rec)).2 : Int)) (fun _ _ _ h _ => h) (fun _ _ _ => rfl) ?_ ?_
 ·rintro ρ w' he ht ⟨h71, -⟩
  have e71 : ρ 71 = .int .i64 ((dAppend d1 (wname (l1.last.frm : Int)) (wrap rec)).2 : Int) := h71
  simp only [evR, List.map_toArray, List.map_cons, List.map_nil, e71]
  have hp : ∃ pl2 ms2, DkM W0.heap.size w' bd bm1 pl2 (dAppend d1 (wname (l1.last.frm : Int)) (wrap rec)).1 ms2 ∧ ∀ k, dall bd bm1 pl2 (dAppend d1 (wname (l1.last.frm : Int)) (wrap rec)).1 ms2 k → FFd w3 bd bm1 pl1 d1 ms1 k := ht
  refine (did_any (dAppend d1 (wname (l1.last.frm : Int)) (wrap rec)).2 w').mono ?_
  rintro e w2 ⟨rfl, rfl⟩
  exact ⟨_, rfl, Kb.refl _ _, rfl, hp⟩
 refine tok_val rfl (.int .i64 (didE (dAppend d1 (wname (l1.last.frm : Int)) (wrap rec)).2 : Int)) (fun _ _ _ => rfl) ?_ ?_
 ·rintro ρ w' he ⟨h72, -⟩
  have e72 : ρ 72 = .int .i64 (didE (dAppend d1 (wname (l1.last.frm : Int)) (wrap rec)).2 : Int) := h72
  simp [execOp, evR, e72, go_sem]
 refine tok_nil ?_
 rintro ρ w' hle htk ⟨f11, f72, f71, f70, f69, f68, f67, f66, f65, f64, f63, f62, f61, -⟩ -
 replace f11 : ρ 11 = .int .i64 (didE (dAppend d1 (wname (l1.last.frm : Int)) (wrap rec)).2 : Int) := f11
 simp only [puts, Act.put, List.setIfInBounds_toArray, List.set_cons_zero, List.set_cons_succ]
 rw [f11]
 clear f11 f61 f62 f63 f64 f65 f66 f67 f68 f69 f70 f71 f72
 obtain ⟨pl2, ms2, hd2, hf2⟩ := (show ∃ pl2 ms2, DkM W0.heap.size w' bd bm1 pl2 (dAppend d1 (wname (l1.last.frm : Int)) (wrap rec)).1 ms2 ∧ ∀ k, dall bd bm1 pl2 (dAppend d1 (wname (l1.last.frm : Int)) (wrap rec)).1 ms2 k → FFd w3 bd bm1 pl1 d1 ms1 k from htk)
 obtain ⟨hc2, hs2⟩ := HC1.out.disk hle hd2 hf2
 have HS2 := Lib.hid (HK.out.trans hs2)
 have HC2 := Lib.hid hc2
 replace HWP := Lib.hid (HWP.out.trans (show wPut d1 l1 (wrap rec) = if didE (dAppend d1 (wname (l1.last.frm : Int)) (wrap rec)).2 ≠ 0 then (((dAppend d1 (wname (l1.last.frm : Int)) (wrap rec)).1, l1), 0, didE (dAppend d1 (wname (l1.last.frm : Int)) (wrap rec)).2) else (((dAppend d1 (wname (l1.last.frm : Int)) (wrap rec)).1, l1.up (wrap rec).length), (l1.up (wrap rec).length).next - 1, 0) from rfl))
 clear hd2 hf2 hs2 hc2 hle htk
 generalize dAppend d1 (wname (l1.last.frm : Int)) (wrap rec) = x at *
 generalize didE x.2 = m at *
 by_cases hm : m = 0
 rotate_left
 ·have hm1 : ¬ (m : Int) = 0 := by omega
  rw [if_pos hm] at HWP
  clear hm
  go_wp2_with fail
  go_ret2
  rw [HWP.out]
  exact ⟨rfl, HS2.out.done HC2.out.dl⟩
 ·subst hm
  rw [if_neg (by omega)] at HWP
  have c1 := (LgM.cells HC2.out.hl HI2.out).2.1
  have c2b := (LgM.cells HC2.out.hl HI2.out).2.2
  have hw1 : IntKind.i64.wrap ((l1.last.count : Int) + 1) = ((l1.last.count + 1 : Nat) : Int) := by rw [IntWalk.i64_in _ (by have := HNX1.out; unfold Lg.next at this; omega)]; omega
  have hw2 : IntKind.i64.wrap ((l1.last.bytes : Int) + (n2 : Int)) = ((l1.last.bytes + n2 : Nat) : Int) := by rw [IntWalk.i64_in _ (by have := HBY1.out; have := HN2L.out; omega)]; omega
  obtain ⟨c22, hup⟩ := LgM.up HC2.out.hl HNE1.out n2 HI.out
  have t1 := HC2.out.hl.row.frozenAt (i * 3 + 1)
  have t2 : (w'.setCell ⟨g1, i * 3 + 1, none⟩ (.int .i64 ((l1.last.count + 1 : Nat) : Int))).frozen? ⟨g1, i * 3 + 2, none⟩ = false := by
   have := HC2.out.hl.row.frozenAt (i * 3 + 2)
   simpa using this
  obtain ⟨hue, hul, hula⟩ := Lg.up_segs l1 n2 HNE1.out
  have hunx := Lg.up_next l1 n2 HNE1.out
  have hw3 : IntKind.i64.wrap (((l1.up n2).next : Int) - 1) = (((l1.up n2).next - 1 : Nat) : Int) := by rw [IntWalk.i64_in _ (by have := HNX1.out; omega)]; omega
  have hkn := wnext_any hup hue (by have := HNX1.out; omega)
  have HKN := Lib.hid hkn
  obtain ⟨hc4, hs4⟩ := HC2.out.put hup ((Kb.set _ w' g1 (i * 3 + 1) _ (.inr rfl)).trans (Kb.set (lall bl (.slice (some ⟨g1, 0, none⟩) l1.segs.length cv1)) _ g1 (i * 3 + 2) _ (.inr rfl)) (fun _ h => .inl h)) (fun _ h => .inl h)
  have HS4 := Lib.hid (HS2.out.trans hs4)
  have HC4 := Lib.hid hc4
  rw [HN2.out] at HWP
  have HUE := Lib.hid hue
  obtain ⟨L2, hL2⟩ : ∃ L2, L2 = l1.up n2 := ⟨_, rfl⟩
  rw [← hL2] at HKN HC4 HWP hw3
  clear hup hue hul hula hunx hkn hc4 hs4 hL2 HI2 HI HUE
  generalize l1.last.count + 1 = q1 at *
  generalize l1.last.bytes + n2 = q2 at *
  generalize l1.last.count = q3 at *
  generalize l1.last.bytes = q4 at *
  generalize L2.next - 1 = q5 at *
  generalize L2.next = q6 at *
  go_wp2_with fail
  refine HKN.out.mono ?_
  rintro e w5 ⟨rfl, hx5⟩
  go_wp2_with fail
  go_ret2
  rw [HWP.out]
  exact ⟨rfl, (HS4.out.ext hx5).done (HC4.out.dl.ext hx5)⟩
end Go.Proofs.YtagghghoimpofaaGreatDoor
