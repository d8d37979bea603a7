/-
 Layer 16: Retire.
-/
import Derived.Test.YtagghghoimpofaaGreatDoorWalRead
namespace Go.Proofs.YtagghghoimpofaaGreatDoor
open Go Go.RowKit Mono
set_option linter.unusedVariables false
set_option linter.unusedSimpArgs false
set_option maxRecDepth 100000
set_option maxHeartbeats 4000000

/-- How many segments there are, as the memory tells. -/
def segN (bl : Nat) (w : World) : Nat := match w.cell? ⟨bl, 0, none⟩ with
 | some (.slice _ n _) => n
 | _ => 0
/-- All segments but the first, in a row of their own. -/
theorem seg_tail {z bl bd g cv n1 : Nat} {W : World} {l : Lg} {s : WSeg} {r : List WSeg} (h : LgM z W bl bd (.slice (some ⟨g, 0, none⟩) n1 cv) l) (hs : l.segs = s :: r) (hr : r ≠ []) (hz : z ≤ W.heap.size) (hlen : l.segs.length ≤ 1000000000) (ty : TypeId) :
  ∃ g' cv' w', (Builtin.append_ #[71, 71] ty #[.slice (some ⟨W.heap.size, 0, none⟩) 0 0, .slice (some ⟨g, 3, none⟩) r.length (cv - 1)]).run Tryz.prog (W.alloc (.cells #[] 79)) = .ok (.slice (some ⟨g', 0, none⟩) r.length cv') w' ∧
   w'.ownsRow z 79 3 (.slice (some ⟨g', 0, none⟩) r.length cv') r.length (scells r) ∧ Ext W w' ∧ W.heap.size ≤ g' := by
 obtain ⟨i0, hi, hz0, hz1, hz2⟩ := info_parts infoSeg
 have hlr : l.segs.length = r.length + 1 := by rw [hs]; rfl
 have hrp := List.length_pos_iff.2 hr
 have hE : (W.alloc (.cells #[] 79)).ownsRow W.heap.size 79 3 (.slice (some ⟨W.heap.size, 0, none⟩) 0 0) 0 [] := World.ownsRow_lit (size := 3) (e := 79) W #[] 0 (Nat.le_refl _) (by decide) (by simp)
 have hx := ext_alloc W (.cells #[] 79)
 have hcell : ∀ j u, (scells r)[j]? = some u → (W.alloc (.cells #[] 79)).cell? ((⟨g, 3, none⟩ : Addr).add j) = some u := by
  intro j u hu
  rw [add_at]
  have hrow := h.row
  rcases hrow.2 with ⟨h1, _⟩ | ⟨g1, cap, cur, h1, _, hg, _, _, _, htk⟩
  ·cases h1
  ·injection h1 with h1 _ _
   injection h1 with h1
   injection h1 with h1 _ _
   subst h1
   have hgl := (Array.getElem?_eq_some_iff.1 hg).1
   refine (hx.cell (p := ⟨g, 3 + j, none⟩) hgl).trans ?_
   have hjl := (List.getElem?_eq_some_iff.1 hu).1
   rw [scells_len] at hjl
   rw [hs, scells_cons] at htk
   have hget : (cur.toList.take (l.segs.length * 3))[3 + j]? = some u := by
    rw [show l.segs.length = (s :: r).length by rw [hs]] at *
    rw [htk]
    rw [Nat.add_comm]
    simpa using hu
   rw [List.getElem?_take_of_lt (by omega)] at hget
   simp only [World.cell?, hg, Option.isSome_none, Bool.false_eq_true, if_false]
   rw [← Array.getElem?_toList]
   exact hget
 obtain ⟨v', w', h1, h2, h3, -, h4⟩ := run_append_own_at (P := Tryz.prog) (W.alloc (.cells #[] 79)) W.heap.size 71 ty 79 i0 _ 3 24 Tryz.underlying71 hi hz0 hz1 hz2 rfl (by decide)
  _ 0 [] hE ⟨g, 3, none⟩ r.length (cv - 1) (scells r) (scells_len r) hcell (by
   intro u hu
   unfold scells at hu
   obtain ⟨q, _, hq⟩ := List.mem_flatMap.1 hu
   rw [segC] at hq
   simp only [List.mem_cons, List.not_mem_nil, or_false] at hq
   rcases hq with rfl | rfl | rfl <;> rfl) (by unfold maxLen; omega) (by omega) (by rw [World.size_alloc]; omega)
 rw [Nat.zero_add, List.nil_append] at h2
 obtain ⟨g', cv', rfl⟩ : ∃ g' cv', v' = .slice (some ⟨g', 0, none⟩) r.length cv' := by
  rcases h2.2 with ⟨_, hn⟩ | ⟨g', cap, cur, hv, _⟩
  ·omega
  ·exact ⟨g', cap, hv⟩
 refine ⟨g', cv', w', h1, row_down h2 hz, grown_ext4 hx hE (Nat.le_refl _) h3, ?_⟩
 exact (World.ownsRow.lt h2 g' rfl).1
theorem wRetireF_eq (k : Nat) (d : Dk) (l : Lg) (lsn : Int) (s t : WSeg) (r : List WSeg) (h : l.segs = s :: t :: r) : wRetireF (k + 1) d l lsn = if (t.frm : Int) ≤ lsn then
    (if didE (dDrop d (wname s.frm)).2 ≠ 0 then (((dDrop d (wname s.frm)).1, l), didE (dDrop d (wname s.frm)).2) else wRetireF k (dDrop d (wname s.frm)).1 { l with segs := t :: r } lsn)
   else ((d, l), 0) := by
 rw [wRetireF, h]
theorem wRetireF_one (k : Nat) (d : Dk) (l : Lg) (lsn : Int) (s : WSeg) (h : l.segs = [s]) : wRetireF k d l lsn = ((d, l), 0) := by
 cases k with
 | zero => rfl
 | succ k => rw [wRetireF, h]
theorem wRetire_any {W0 W : World} {bd bl c0 : Nat} {fp : Nat → Prop} {d : Dk} {l : Lg} (h : DL W0.heap.size bd bl fp d l W) (hx : Ext W0 W) (hT : TbW W0) (hok : d.Ok) (hsc : d.SmallC c0) (hne : l.segs ≠ []) (hc0 : c0 + l.segs.length + 10 ≤ 1000000000) (lsn : Int) :
  Calls Tryz.prog 32 #[.pointer (some ⟨bl, 0, none⟩), .int .i64 lsn] W fun e w' => e = .returned (.int .i64 ((wRetire d l lsn).2 : Int)) ∧ DLS W0.heap.size bd bl fp (wRetire d l lsn).1.1 (wRetire d l lsn).1.2 W w' := by
 obtain ⟨bm0, pl0, ms0, v0, hc, hfp⟩ := h.cx hx hT
 have HFA := Lib.hid (wfault_any hc.hd hc.hl)
 have HDL := Lib.hid h
 have HLOW := Lib.hid h.low
 have HX := Lib.hid hx
 have HT := Lib.hid hT
 have HOK0 := Lib.hid hok
 have HSC := Lib.hid hsc
 have HC0 := Lib.hid hc0
 have HNE := Lib.hid hne
 clear h hx hT hok hsc hc0 hne hc hfp
 obtain ⟨n, hn⟩ : ∃ n, n = wFault d l := ⟨_, rfl⟩
 rw [← hn] at HFA
 by_cases hn0 : n = 0
 rotate_left
 ·have hn1 : ¬ (n : Int) = 0 := by omega
  have HW := Lib.hid (show wRetire d l lsn = ((d, l), n) by unfold wRetire; rw [if_pos (by omega), hn])
  clear hn hn0
  go_enter Tryz.func32, Tryz.ntmps32
  go_wp2_with fail
  refine HFA.out.mono ?_
  rintro e w1 ⟨rfl, hx1⟩
  go_wp2_with fail
  go_ret
  rw [HW.out]
  exact ⟨rfl, DLS.ext HDL.out hx1⟩
 subst hn0
 have HW := Lib.hid (show wRetire d l lsn = wRetireF l.segs.length d l lsn by unfold wRetire; rw [if_neg (by omega)])
 clear hn
 go_enter Tryz.func32, Tryz.ntmps32
 go_wp2_with fail
 refine HFA.out.mono ?_
 rintro e w1 ⟨rfl, hx1⟩
 have HD1 := Lib.hid (HDL.out.ext hx1)
 have HK1 := Lib.hid (show Cont fp W fp w1 from (Cont.refl (fun _ h => h)).ext hx1)
 clear hx1 HFA
 go_wp2_with fail
 go_loopw [6] (fun _ wr => ∃ (k : Nat) (d1 : Dk) (l1 : Lg) (fp1 : Nat → Prop), wRetireF l.segs.length d l lsn = wRetireF k d1 l1 lsn ∧ l1.segs.length = k ∧ k ≤ l.segs.length ∧ d1.Ok ∧ d1.SmallC (c0 + (l.segs.length - k)) ∧ l1.segs ≠ [] ∧ DL W0.heap.size bd bl fp1 d1 l1 wr ∧ Cont fp W fp1 wr) (fun _ wr => segN bl wr)
 case atStart => exact ⟨_, d, l, fp, rfl, rfl, Nat.le_refl _, HOK0.out, HSC.out.more (Nat.le_add_right _ _), HNE.out, HD1.out, HK1.out⟩
 case round =>
  obtain ⟨k, d1, l1, fp1, heq, hk, hkl, hok1, hsc1, hne1, hdl1, hk1⟩ := hrel
  obtain ⟨bm, pl, ms, v, hc, hkk⟩ := hdl1.cx (hk1.low HX.out HLOW.out) HT.out
  obtain ⟨g, cv, rfl, -⟩ := hc.hl.slice hne1
  have HK := Lib.hid (hk1.trans hkk)
  have HC := Lib.hid hc
  have k0 := hc.hl.str.blk.cell (i := 0) rfl
  obtain ⟨n1, hn1⟩ : ∃ n1, n1 = l1.segs.length := ⟨_, rfl⟩
  have hmeas : segN bl wr = n1 := by unfold segN; rw [k0, hn1]
  have HMEAS := Lib.hid hmeas
  rw [← hn1] at k0 HC HK
  cases hs1 : l1.segs with
  | nil => exact absurd hs1 hne1
  | cons s r1 =>
   cases r1 with
   | nil =>
    have hn11 : n1 = 1 := by rw [hn1, hs1]; rfl
    subst hn11
    have HEND := Lib.hid (heq.trans (wRetireF_one k d1 l1 lsn s hs1))
    clear heq hk hkl hok1 hsc1 hne1 hdl1 hk1 hc hkk hn1 hmeas hs1
    go_wp2_with fail
    go_ret
    rw [HW.out, HEND.out]
    exact ⟨rfl, HK.out.done HC.out.dl⟩
   | cons t r =>
    have hn1b : n1 = r.length + 2 := by rw [hn1, hs1]; rfl
    have hk' : k = (r.length + 1) + 1 := by rw [← hk, hs1]; rfl
    have hEQ := heq
    rw [hk', wRetireF_eq (r.length + 1) d1 l1 lsn s t r hs1] at hEQ
    have HEQ := Lib.hid hEQ
    clear hEQ
    have HI0 := Lib.hid (show l1.segs[0]? = some s by rw [hs1]; rfl)
    have hi1 : l1.segs[1]? = some t := by rw [hs1]; rfl
    have c1 := (LgM.cells hc.hl hi1).1
    rw [Nat.one_mul] at c1
    have hsz : (sizeOf 79).run Tryz.prog wr = .ok 3 wr := by kernel_rfl
    have hn1g : (1 : Int) < (n1 : Int) := by omega
    have HOK := Lib.hid hok1
    have HSM := Lib.hid (hsc1.small (by have := HC0.out; omega))
    have HSC1 := Lib.hid hsc1
    have HS1 := Lib.hid hs1
    have HKL := Lib.hid hkl
    have HKR := Lib.hid hk'
    have HN1 := Lib.hid hn1
    have HN1B := Lib.hid hn1b
    clear heq hk hkl hok1 hsc1 hne1 hdl1 hk1 hc hkk hn1 hmeas hs1 hk' hi1 hn1b
    by_cases hle0 : (t.frm : Int) ≤ lsn
    rotate_left
    ·rw [if_neg hle0] at HEQ
     go_wp2_with fail
     go_ret
     rw [HW.out, HEQ.out]
     exact ⟨rfl, HK.out.done HC.out.dl⟩
    ·rw [if_pos hle0] at HEQ
     go_wp2_with fail
     refine wp_region_tok [false, false, false, false, false, false, false, false, false, false, false, false, true, true, true, false] (Kb (FFd wr bd bm pl d1 ms)) (fun c w => if c < 2 then DkM W0.heap.size w bd bm pl d1 ms else ∃ pl2 ms2, DkM W0.heap.size w bd bm pl2 (dDrop d1 (wname (s.frm : Int))).1 ms2 ∧ ∀ k, dall bd bm pl2 (dDrop d1 (wname (s.frm : Int))).1 ms2 k → FFd wr bd bm pl d1 ms k) 3 (by kernel_rfl) (by kernel_rfl) (by kernel_rfl) (by kernel_rfl) (preKb' _) (Kb.of_ext (ext_drew wr)) (HC.out.hd.ext (ext_drew wr)) ?_
     refine tok_val rfl (.pointer (some ⟨bl, 0, none⟩)) (fun _ _ _ => rfl) ?_ ?_
     ·rintro ρ w' he ⟨h0, -⟩
      have e0 : ρ 0 = .pointer (some ⟨bl, 0, none⟩) := h0
      simp [execOp, evR, e0, go_sem]
     refine tok_val rfl (.pointer (some ⟨bl, 0, none⟩)) (fun _ _ _ => rfl) ?_ ?_
     ·rintro ρ w' he ⟨h31, -⟩
      have e31 : ρ 31 = .pointer (some ⟨bl, 0, none⟩) := h31
      simp [execOp, evR, e31, go_sem]
     refine tok_val rfl (.pointer (some ⟨bl, 1, none⟩)) (fun _ _ _ => rfl) ?_ ?_
     ·rintro ρ w' he ⟨h32, -⟩
      have e32 : ρ 32 = .pointer (some ⟨bl, 0, none⟩) := h32
      simp [execOp, evR, e32, go_sem]
     refine tok_val rfl (.pointer (some ⟨bd, 0, none⟩)) (fun _ _ _ => rfl) ?_ ?_
     ·rintro ρ w' he ⟨h33, -⟩
      have e33 : ρ 33 = .pointer (some ⟨bl, 1, none⟩) := h33
      have c := (HC.out.log he).str.blk.cell (i := 1) rfl
      simp [execOp, evR, e33, c, go_sem]
     refine tok_val rfl (.pointer (some ⟨bl, 0, none⟩)) (fun _ _ _ => rfl) ?_ ?_
     ·rintro ρ w' he ⟨h0, -⟩
      have e0 : ρ 0 = .pointer (some ⟨bl, 0, none⟩) := h0
      simp [execOp, evR, e0, go_sem]
     refine tok_val rfl (.pointer (some ⟨bl, 0, none⟩)) (fun _ _ _ => rfl) ?_ ?_
     ·rintro ρ w' he ⟨h35, -⟩
      have e35 : ρ 35 = .pointer (some ⟨bl, 0, none⟩) := h35
      simp [execOp, evR, e35, go_sem]
     refine tok_val rfl (.pointer (some ⟨bl, 0, none⟩)) (fun _ _ _ => rfl) ?_ ?_
     ·rintro ρ w' he ⟨h36, -⟩
      have e36 : ρ 36 = .pointer (some ⟨bl, 0, none⟩) := h36
      simp [execOp, evR, e36, go_sem]
     refine tok_val rfl (.pointer (some ⟨bl, 0, none⟩)) (fun _ _ _ => rfl) ?_ ?_
     ·rintro ρ w' he ⟨h37, -⟩
      have e37 : ρ 37 = .pointer (some ⟨bl, 0, none⟩) := h37
      simp [execOp, evR, e37, go_sem]
     refine tok_val rfl (.slice (some ⟨g, 0, none⟩) n1 cv) (fun _ _ _ => rfl) ?_ ?_
     ·rintro ρ w' he ⟨h38, -⟩
      have e38 : ρ 38 = .pointer (some ⟨bl, 0, none⟩) := h38
      have c := (HC.out.log he).str.blk.cell (i := 0) rfl
      simp [execOp, evR, e38, c, go_sem]
     refine tok_val rfl (.pointer (some ⟨g, 0, none⟩)) (fun _ _ _ => rfl) ?_ ?_
     ·rintro ρ w' he ⟨h39, -⟩
      have e39 : ρ 39 = .slice (some ⟨g, 0, none⟩) n1 cv := h39
      exact index_seg (i := 0) rfl e39 rfl (by omega)
     refine tok_val rfl (.pointer (some ⟨g, 0, none⟩)) (fun _ _ _ => rfl) ?_ ?_
     ·rintro ρ w' he ⟨h40, -⟩
      have e40 : ρ 40 = .pointer (some ⟨g, 0, none⟩) := h40
      simp [execOp, evR, e40, go_sem]
     refine tok_val rfl (.int .i64 (s.frm : Int)) (fun _ _ _ => rfl) ?_ ?_
     ·rintro ρ w' he ⟨h41, -⟩
      have e41 : ρ 41 = .pointer (some ⟨g, 0, none⟩) := h41
      have c := (LgM.cells (HC.out.log he) HI0.out).1
      rw [Nat.zero_mul] at c
      simp [execOp, evR, e41, c, go_sem]
     refine tok_call rfl rfl Tryz.func38 (by kernel_rfl) (fun v _ => v = .string ⟨(wname (s.frm : Int)).toArray⟩) (fun _ _ _ h _ => h) (fun _ _ _ => rfl) ?_ ?_
     ·rintro ρ w' he ht ⟨h42, -⟩
      have e42 : ρ 42 = .int .i64 (s.frm : Int) := h42
      simp only [evR, List.map_toArray, List.map_cons, List.map_nil, e42]
      have hp : DkM W0.heap.size w' bd bm pl d1 ms := ht
      refine (wName_any (s.frm : Int) w' (HC.out.tb he)).mono ?_
      rintro e w2 ⟨rfl, hx2⟩
      exact ⟨_, rfl, Kb.of_ext hx2, rfl, hp.ext hx2⟩
     refine tok_call rfl rfl Tryz.func67 (by kernel_rfl) (fun v _ => v = .int .i64 ((dDrop d1 (wname (s.frm : Int))).2 : Int)) (fun _ _ _ h _ => h) (fun _ _ _ => rfl) ?_ ?_
     ·rintro ρ w' he ht ⟨h34, h43, -⟩
      have e34 : ρ 34 = .pointer (some ⟨bd, 0, none⟩) := h34
      have e43 : ρ 43 = .string ⟨(wname (s.frm : Int)).toArray⟩ := h43
      simp only [evR, List.map_toArray, List.map_cons, List.map_nil, e34, e43]
      have hp : DkM W0.heap.size w' bd bm pl d1 ms := ht
      refine (drop_any hp HOK.out HSM.out (HC.out.ext_ he).size (wname (s.frm : Int)) (Nat.le_trans (wname_len _) (by decide))).mono ?_
      rintro e w2 hq
      exact tok_disk he hq
     refine tok_call rfl rfl Tryz.func46 (by kernel_rfl) (fun v _ => v = .int .i64 (didE (dDrop d1 (wname (s.frm : Int))).2 : Int)) (fun _ _ _ h _ => h) (fun _ _ _ => rfl) ?_ ?_
     ·rintro ρ w' he ht ⟨h44, -⟩
      have e44 : ρ 44 = .int .i64 ((dDrop d1 (wname (s.frm : Int))).2 : Int) := h44
      simp only [evR, List.map_toArray, List.map_cons, List.map_nil, e44]
      have hp : ∃ pl2 ms2, DkM W0.heap.size w' bd bm pl2 (dDrop d1 (wname (s.frm : Int))).1 ms2 ∧ ∀ k, dall bd bm pl2 (dDrop d1 (wname (s.frm : Int))).1 ms2 k → FFd wr bd bm pl d1 ms k := ht
      refine (did_any (dDrop d1 (wname (s.frm : Int))).2 w').mono ?_
      rintro e w2 ⟨rfl, rfl⟩
      exact ⟨_, rfl, Kb.refl _ _, rfl, hp⟩
     refine tok_val rfl (.int .i64 (didE (dDrop d1 (wname (s.frm : Int))).2 : Int)) (fun _ _ _ => rfl) ?_ ?_
     ·rintro ρ w' he ⟨h45, -⟩
      have e45 : ρ 45 = .int .i64 (didE (dDrop d1 (wname (s.frm : Int))).2 : Int) := h45
      simp [execOp, evR, e45, go_sem]
     refine tok_nil ?_
     rintro ρ w' hle htk ⟨f6, f45, f44, f43, f42, f41, f40, f39, f38, f37, f36, f35, f34, f33, f32, f31, -⟩ -
     replace f6 : ρ 6 = .int .i64 (didE (dDrop d1 (wname (s.frm : Int))).2 : Int) := f6
     simp only [puts, Act.put, List.setIfInBounds_toArray, List.set_cons_zero, List.set_cons_succ]
     rw [f6]
     clear f6 f31 f32 f33 f34 f35 f36 f37 f38 f39 f40 f41 f42 f43 f44 f45
     obtain ⟨pl2, ms2, hd2, hf2⟩ := (show ∃ pl2 ms2, DkM W0.heap.size w' bd bm pl2 (dDrop d1 (wname (s.frm : Int))).1 ms2 ∧ ∀ k, dall bd bm pl2 (dDrop d1 (wname (s.frm : Int))).1 ms2 k → FFd wr bd bm pl d1 ms k from htk)
     obtain ⟨hc2, hs2⟩ := HC.out.disk hle hd2 hf2
     have HK2 := Lib.hid (HK.out.trans hs2)
     have HC2 := Lib.hid hc2
     have HXOK := Lib.hid (dDrop_ok HOK.out (wname (s.frm : Int)))
     have HXSM := Lib.hid (HSC1.out.grow (dDrop_grow d1 (wname (s.frm : Int))))
     clear hd2 hf2 hs2 hc2 hle htk c1 k0 hsz
     generalize dDrop d1 (wname (s.frm : Int)) = x at *
     generalize didE x.2 = m at *
     by_cases hm : m = 0
     rotate_left
     ·have hm1 : ¬ (m : Int) = 0 := by omega
      rw [if_pos hm] at HEQ
      clear hm
      go_wp2_with fail
      go_ret
      rw [HW.out, HEQ.out]
      exact ⟨rfl, HK2.out.done HC2.out.dl⟩
     ·subst hm
      rw [if_neg (by omega)] at HEQ
      obtain ⟨g', cv', w4, hrun, hrow, hxt, hgn⟩ := seg_tail HC2.out.hl HS1.out (by simp) HC2.out.hx.size (by have := HC0.out; have := HKL.out; have := HKR.out; rw [← HN1.out, HN1B.out]; omega) 71
      have hxe := ext_alloc w' (.cells #[] 79)
      have k0 := (HC2.out.hl.ext hxe).str.blk.cell (i := 0) rfl
      have k4 := (HC2.out.hl.ext hxt).str.blk.cell (i := 0) rfl
      have t4 := (HC2.out.hl.ext hxt).str.blk.thaw 0
      have hsw := LgM.swap (l' := { l1 with segs := t :: r }) (HC2.out.hl.ext hxt).str HC2.out.hl.zl hrow ⟨rfl, rfl, rfl⟩
      obtain ⟨hc4, hs4⟩ := HC2.out.put hsw ((Kb.of_ext (fp := lall bl (.slice (some ⟨g, 0, none⟩) n1 cv)) hxt).trans (Kb.set (lall bl (.slice (some ⟨g, 0, none⟩) n1 cv)) _ bl 0 _ (.inl rfl)) (fun _ h => .inl h)) (fun j hj => hj.elim (fun h => .inl (.inl h)) (fun h => .inr (by
       have h1 : some g' = some j := h
       injection h1 with h1
       omega)))
      have HK4 := Lib.hid (HK2.out.trans hs4)
      have HC4 := Lib.hid hc4
      have HRUN := Lib.hid hrun
      have hcl : Tryz.prog.cellsOf 79 = 3 := by kernel_rfl
      have hsl : (n1 : Int) - 1 = ((t :: r).length : Int) := by rw [HN1B.out]; simp; omega
      have hcv : n1 ≤ cv := by
       rcases HC2.out.hl.row.2 with ⟨h1, _⟩ | ⟨_, _, _, h1, _, _, h2, _⟩
       ·cases h1
       ·injection h1 with h1 h3 h4
        omega
      have hcv1 : ¬ cv = 1 := by omega
      have HNT := Lib.hid (show n1 - 1 = (t :: r).length by rw [HN1B.out]; rfl)
      clear hrow hxt hgn hxe hsw hc4 hs4 hrun
      go_wp2_with (first
       | (at_builtin; refine wpList_append_run rfl (.tmp 50) (.tmp 56) 71 rfl rfl (by show Value.slice (some ⟨g, 3, none⟩) (n1 - 1) (cv - 1) = _; rw [HNT.out]) HRUN.out ?_)
       | go_in)
      have hm2 : segN bl (w4.setCell ⟨bl, 0, none⟩ (.slice (some ⟨g', 0, none⟩) (t :: r).length cv')) = r.length + 1 := by
       unfold segN
       rw [HC4.out.hl.str.blk.cell (i := 0) rfl]
       rfl
      refine ⟨⟨r.length + 1, x.1, { l1 with segs := t :: r }, _, HEQ.out, rfl, by have := HKL.out; have := HKR.out; omega, HXOK.out, HXSM.out.more (by have := HKL.out; have := HKR.out; omega), by simp, HC4.out.dl, HK4.out⟩, ?_⟩
      rw [HMEAS.out, HN1B.out]
      exact Nat.lt_of_le_of_lt (Nat.le_of_eq hm2) (Nat.lt_succ_self _)
end Go.Proofs.YtagghghoimpofaaGreatDoor
