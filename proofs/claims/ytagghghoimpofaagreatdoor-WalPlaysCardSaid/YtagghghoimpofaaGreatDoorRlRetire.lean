/-
 Layer 16: the document's log: Retire.
-/
import Derived.Test.YtagghghoimpofaaGreatDoorRlMem
import Derived.Test.YtagghghoimpofaaGreatDoorWalRetire
import Derived.Test.YtagghghoimpofaaGreatDoorRkWalk2
namespace Go.Proofs.YtagghghoimpofaaGreatDoor
open Go Go.RowKit Mono
set_option linter.unusedVariables false
set_option linter.unusedSimpArgs false
set_option maxRecDepth 100000
set_option maxHeartbeats 4000000

/-- How many segments there are, as the memory tells. -/
def rsegN (bl : Nat) (w : World) : Nat := match w.cell? ⟨bl, 2, none⟩ with
 | some (.slice _ n _) => n
 | _ => 0
/-- All segments but the first, in a row of their own. -/
theorem rseg_tail {z bl bd g cv n1 : Nat} {W : World} {l : Lg} {s : WSeg} {r : List WSeg} (h : RlM z W bl bd (.slice (some ⟨g, 0, none⟩) n1 cv) l) (hs : l.segs = s :: r) (hr : r ≠ []) (hz : z ≤ W.heap.size) (hlen : l.segs.length ≤ 1000000000) (ty : TypeId) :
  ∃ g' cv' w', (Builtin.append_ #[61, 61] ty #[.slice (some ⟨W.heap.size, 0, none⟩) 0 0, .slice (some ⟨g, 3, none⟩) r.length (cv - 1)]).run Tryz.prog (W.alloc (.cells #[] 96)) = .ok (.slice (some ⟨g', 0, none⟩) r.length cv') w' ∧
   w'.ownsRow z 96 3 (.slice (some ⟨g', 0, none⟩) r.length cv') r.length (scells r) ∧ Ext W w' ∧ W.heap.size ≤ g' := by
 obtain ⟨i0, hi, hz0, hz1, hz2⟩ := info_parts infoRSeg
 have hlr : l.segs.length = r.length + 1 := by rw [hs]; rfl
 have hrp := List.length_pos_iff.2 hr
 have hE : (W.alloc (.cells #[] 96)).ownsRow W.heap.size 96 3 (.slice (some ⟨W.heap.size, 0, none⟩) 0 0) 0 [] := World.ownsRow_lit (size := 3) (e := 96) W #[] 0 (Nat.le_refl _) (by decide) (by simp)
 have hx := ext_alloc W (.cells #[] 96)
 have hcell : ∀ j u, (scells r)[j]? = some u → (W.alloc (.cells #[] 96)).cell? ((⟨g, 3, none⟩ : Addr).add j) = some u := by
  intro j u hu
  rw [add_at]
  have hrow := h.row
  rcases hrow.2 with ⟨h1, _⟩ | ⟨g1, cap, cur, h1, _, hg, _, _, _, htk⟩
  ·cases h1
  ·injection h1 with h1 _ _
   injection h1 with h1
   injection h1 with h1 _ _
   subst h1
   have hgl := (Array.getElem?_eq_some_iff.1 hg).1
   refine (hx.cell (p := ⟨g, 3 + j, none⟩) hgl).trans ?_
   have hjl := (List.getElem?_eq_some_iff.1 hu).1
   rw [scells_len] at hjl
   rw [hs, scells_cons] at htk
   have hget : (cur.toList.take (l.segs.length * 3))[3 + j]? = some u := by
    rw [show l.segs.length = (s :: r).length by rw [hs]] at *
    rw [htk]
    rw [Nat.add_comm]
    simpa using hu
   rw [List.getElem?_take_of_lt (by omega)] at hget
   simp only [World.cell?, hg, Option.isSome_none, Bool.false_eq_true, if_false]
   rw [← Array.getElem?_toList]
   exact hget
 obtain ⟨v', w', h1, h2, h3, -, h4⟩ := run_append_own_at (P := Tryz.prog) (W.alloc (.cells #[] 96)) W.heap.size 61 ty 96 i0 _ 3 24 Tryz.underlying61 hi hz0 hz1 hz2 rfl (by decide)
  _ 0 [] hE ⟨g, 3, none⟩ r.length (cv - 1) (scells r) (scells_len r) hcell (by
   intro u hu
   unfold scells at hu
   obtain ⟨q, _, hq⟩ := List.mem_flatMap.1 hu
   rw [segC] at hq
   simp only [List.mem_cons, List.not_mem_nil, or_false] at hq
   rcases hq with rfl | rfl | rfl <;> rfl) (by unfold maxLen; omega) (by omega) (by rw [World.size_alloc]; omega)
 rw [Nat.zero_add, List.nil_append] at h2
 obtain ⟨g', cv', rfl⟩ : ∃ g' cv', v' = .slice (some ⟨g', 0, none⟩) r.length cv' := by
  rcases h2.2 with ⟨_, hn⟩ | ⟨g', cap, cur, hv, _⟩
  ·omega
  ·exact ⟨g', cap, hv⟩
 refine ⟨g', cv', w', h1, row_down h2 hz, grown_ext4 hx hE (Nat.le_refl _) h3, ?_⟩
 exact (World.ownsRow.lt h2 g' rfl).1
theorem rlRetire_any {W0 W : World} {br bl c0 : Nat} {s0 : RSt} {d : Dk} {v0 : Value} {l : Lg} (h : Rx W0 W br bl s0 d v0 l) (hok : d.Ok) (hsc : d.SmallC c0) (hne : l.segs ≠ []) (hc0 : c0 + l.segs.length + 10 ≤ 1000000000) (lsn : Int) :
  Calls Tryz.prog 33 #[.pointer (some ⟨bl, 0, none⟩), .int .i64 lsn] W fun e w' => e = .returned (.int .i64 ((wRetire d l lsn).2 : Int)) ∧ ∃ s' v', Rx W0 w' br bl s' (wRetire d l lsn).1.1 v' (wRetire d l lsn).1.2 ∧ Cont (rfp br bl s0 v0) W (rfp br bl s' v') w' := by
 have HON := Lib.hid (rlOn_any h.hd h.hl)
 have HH := Lib.hid h
 have HOK0 := Lib.hid hok
 have HSC := Lib.hid hsc
 have HC0 := Lib.hid hc0
 have HNE := Lib.hid hne
 clear h hok hsc hc0 hne
 by_cases hn0 : wFault d l = 0
 rotate_left
 ·rw [show decide (wFault d l = 0) = false from decide_eq_false hn0] at HON
  have HW := Lib.hid (show wRetire d l lsn = ((d, l), 150) by
   have hE : wFault d l = 0 ∨ wFault d l = 150 := by unfold wFault; split; exact .inr rfl; split; exact .inr rfl; exact .inl rfl
   have hE2 : wFault d l = 150 := hE.resolve_left hn0
   unfold wRetire
   rw [if_pos hn0, hE2])
  clear hn0
  go_enter Tryz.func33, Tryz.ntmps33
  go_wp2_with fail
  refine HON.out.mono ?_
  rintro e w1 ⟨rfl, hx1⟩
  go_wp2_with fail
  go_ret
  rw [HW.out]
  exact ⟨rfl, s0, v0, HH.out.ext hx1, (Cont.refl fun _ h => h).ext hx1⟩
 rw [show decide (wFault d l = 0) = true from decide_eq_true hn0] at HON
 have HW := Lib.hid (show wRetire d l lsn = wRetireF l.segs.length d l lsn by unfold wRetire; rw [if_neg (by omega)])
 clear hn0
 go_enter Tryz.func33, Tryz.ntmps33
 go_wp2_with fail
 refine HON.out.mono ?_
 rintro e w1 ⟨rfl, hx1⟩
 have HD1 := Lib.hid (HH.out.ext hx1)
 have HK1 := Lib.hid (show Cont (rfp br bl s0 v0) W (rfp br bl s0 v0) w1 from (Cont.refl (fun _ h => h)).ext hx1)
 clear hx1 HON
 go_wp2_with fail
 go_loopw [5] (fun _ wr => ∃ (k : Nat) (d1 : Dk) (l1 : Lg) (s1 : RSt) (v1 : Value), wRetireF l.segs.length d l lsn = wRetireF k d1 l1 lsn ∧ l1.segs.length = k ∧ k ≤ l.segs.length ∧ d1.Ok ∧ d1.SmallC (c0 + (l.segs.length - k)) ∧ l1.segs ≠ [] ∧ Rx W0 wr br bl s1 d1 v1 l1 ∧ Cont (rfp br bl s0 v0) W (rfp br bl s1 v1) wr) (fun _ wr => rsegN bl wr)
 case atStart => exact ⟨_, d, l, s0, v0, rfl, rfl, Nat.le_refl _, HOK0.out, HSC.out.more (Nat.le_add_right _ _), HNE.out, HD1.out, HK1.out⟩
 case round =>
  obtain ⟨k, d1, l1, s1, v1, heq, hk, hkl, hok1, hsc1, hne1, hc, hkk⟩ := hrel
  obtain ⟨g, cv, rfl, -⟩ := hc.hl.slice hne1
  have HK := Lib.hid hkk
  have HC := Lib.hid hc
  have k0 := hc.hl.str.blk.cell (i := 2) rfl
  obtain ⟨n1, hn1⟩ : ∃ n1, n1 = l1.segs.length := ⟨_, rfl⟩
  have hmeas : rsegN bl wr = n1 := by unfold rsegN; rw [k0, hn1]
  have HMEAS := Lib.hid hmeas
  rw [← hn1] at k0 HC HK
  cases hs1 : l1.segs with
  | nil => exact absurd hs1 hne1
  | cons s r1 =>
   cases r1 with
   | nil =>
    have hn11 : n1 = 1 := by rw [hn1, hs1]; rfl
    subst hn11
    have HEND := Lib.hid (heq.trans (wRetireF_one k d1 l1 lsn s hs1))
    clear heq hk hkl hok1 hsc1 hne1 hc hkk hn1 hmeas hs1
    go_wp2_with fail
    go_ret
    rw [HW.out, HEND.out]
    exact ⟨rfl, s1, _, HC.out, HK.out⟩
   | cons t r =>
    have hn1b : n1 = r.length + 2 := by rw [hn1, hs1]; rfl
    have hk' : k = (r.length + 1) + 1 := by rw [← hk, hs1]; rfl
    have hEQ := heq
    rw [hk', wRetireF_eq (r.length + 1) d1 l1 lsn s t r hs1] at hEQ
    have HEQ := Lib.hid hEQ
    clear hEQ
    have HI0 := Lib.hid (show l1.segs[0]? = some s by rw [hs1]; rfl)
    have hi1 : l1.segs[1]? = some t := by rw [hs1]; rfl
    have c1 := (RlM.cells hc.hl hi1).1
    rw [Nat.one_mul] at c1
    have hsz : (sizeOf 96).run Tryz.prog wr = .ok 3 wr := by kernel_rfl
    have hn1g : (1 : Int) < (n1 : Int) := by omega
    have HOK := Lib.hid hok1
    have HSM := Lib.hid (hsc1.small (by have := HC0.out; omega))
    have HSC1 := Lib.hid hsc1
    have HS1 := Lib.hid hs1
    have HKL := Lib.hid hkl
    have HKR := Lib.hid hk'
    have HN1 := Lib.hid hn1
    have HN1B := Lib.hid hn1b
    clear heq hk hkl hok1 hsc1 hne1 hc hkk hn1 hmeas hs1 hk' hi1 hn1b
    by_cases hle0 : (t.frm : Int) ≤ lsn
    rotate_left
    ·rw [if_neg hle0] at HEQ
     go_wp2_with fail
     go_ret
     rw [HW.out, HEQ.out]
     exact ⟨rfl, s1, _, HC.out, HK.out⟩
    ·rw [if_pos hle0] at HEQ
     go_wp2_with fail
     refine wp_region_tok [false, false, false, false, false, false, false, false, false, false, false, false, true, true, true, false] (Kb (FFr wr br s1)) (fun c w => if c < 2 then RkM W0.heap.size w br s1 d1 else ∃ s2, RkM W0.heap.size w br s2 (dDrop d1 (wname (s.frm : Int))).1 ∧ ∀ k, rall br s2 k → FFr wr br s1 k) 3 (by kernel_rfl) (by kernel_rfl) (by kernel_rfl) (by kernel_rfl) (preKb' _) (Kb.of_ext (ext_drew wr)) (HC.out.hd.ext (ext_drew wr)) ?_
     refine tok_val rfl (.pointer (some ⟨bl, 0, none⟩)) (fun _ _ _ => rfl) ?_ ?_
     ·rintro ρ w' he ⟨h0, -⟩
      have e0 : ρ 0 = .pointer (some ⟨bl, 0, none⟩) := h0
      simp [execOp, evR, e0, go_sem]
     refine tok_val rfl (.pointer (some ⟨bl, 0, none⟩)) (fun _ _ _ => rfl) ?_ ?_
     ·rintro ρ w' he ⟨h0, -⟩
      have e0 : ρ 0 = .pointer (some ⟨bl, 0, none⟩) := h0
      simp [execOp, evR, e0, go_sem]
     refine tok_val rfl (.pointer (some ⟨bl, 0, none⟩)) (fun _ _ _ => rfl) ?_ ?_
     ·rintro ρ w' he ⟨h27, -⟩
      have e27 : ρ 27 = .pointer (some ⟨bl, 0, none⟩) := h27
      simp [execOp, evR, e27, go_sem]
     refine tok_val rfl (.pointer (some ⟨bl, 0, none⟩)) (fun _ _ _ => rfl) ?_ ?_
     ·rintro ρ w' he ⟨h28, -⟩
      have e28 : ρ 28 = .pointer (some ⟨bl, 0, none⟩) := h28
      simp [execOp, evR, e28, go_sem]
     refine tok_val rfl (.pointer (some ⟨br, 0, none⟩)) (fun _ _ _ => rfl) ?_ ?_
     ·rintro ρ w' he ⟨h29, -⟩
      have e29 : ρ 29 = .pointer (some ⟨bl, 0, none⟩) := h29
      have c := (HC.out.log he).str.blk.cell (i := 0) rfl
      simp [execOp, evR, e29, c, go_sem]
     refine tok_val rfl (.pointer (some ⟨bl, 0, none⟩)) (fun _ _ _ => rfl) ?_ ?_
     ·rintro ρ w' he ⟨h0, -⟩
      have e0 : ρ 0 = .pointer (some ⟨bl, 0, none⟩) := h0
      simp [execOp, evR, e0, go_sem]
     refine tok_val rfl (.pointer (some ⟨bl, 0, none⟩)) (fun _ _ _ => rfl) ?_ ?_
     ·rintro ρ w' he ⟨h31, -⟩
      have e31 : ρ 31 = .pointer (some ⟨bl, 0, none⟩) := h31
      simp [execOp, evR, e31, go_sem]
     refine tok_val rfl (.pointer (some ⟨bl, 2, none⟩)) (fun _ _ _ => rfl) ?_ ?_
     ·rintro ρ w' he ⟨h32, -⟩
      have e32 : ρ 32 = .pointer (some ⟨bl, 0, none⟩) := h32
      simp [execOp, evR, e32, go_sem]
     refine tok_val rfl (.slice (some ⟨g, 0, none⟩) n1 cv) (fun _ _ _ => rfl) ?_ ?_
     ·rintro ρ w' he ⟨h33, -⟩
      have e33 : ρ 33 = .pointer (some ⟨bl, 2, none⟩) := h33
      have c := (HC.out.log he).str.blk.cell (i := 2) rfl
      simp [execOp, evR, e33, c, go_sem]
     refine tok_val rfl (.pointer (some ⟨g, 0, none⟩)) (fun _ _ _ => rfl) ?_ ?_
     ·rintro ρ w' he ⟨h34, -⟩
      have e34 : ρ 34 = .slice (some ⟨g, 0, none⟩) n1 cv := h34
      exact index_rseg (i := 0) rfl e34 rfl (by omega)
     refine tok_val rfl (.pointer (some ⟨g, 0, none⟩)) (fun _ _ _ => rfl) ?_ ?_
     ·rintro ρ w' he ⟨h35, -⟩
      have e35 : ρ 35 = .pointer (some ⟨g, 0, none⟩) := h35
      simp [execOp, evR, e35, go_sem]
     refine tok_val rfl (.int .i64 (s.frm : Int)) (fun _ _ _ => rfl) ?_ ?_
     ·rintro ρ w' he ⟨h36, -⟩
      have e36 : ρ 36 = .pointer (some ⟨g, 0, none⟩) := h36
      have c := (RlM.cells (HC.out.log he) HI0.out).1
      rw [Nat.zero_mul] at c
      simp [execOp, evR, e36, c, go_sem]
     refine tok_call rfl rfl Tryz.func51 (by kernel_rfl) (fun v _ => v = .string ⟨(wname (s.frm : Int)).toArray⟩) (fun _ _ _ h _ => h) (fun _ _ _ => rfl) ?_ ?_
     ·rintro ρ w' he ht ⟨h37, -⟩
      have e37 : ρ 37 = .int .i64 (s.frm : Int) := h37
      simp only [evR, List.map_toArray, List.map_cons, List.map_nil, e37]
      have hp : RkM W0.heap.size w' br s1 d1 := ht
      refine (refWName_any (s.frm : Int) w').mono ?_
      rintro e w2 ⟨rfl, hx2⟩
      exact ⟨_, rfl, Kb.of_ext hx2, rfl, hp.ext hx2⟩
     refine tok_call rfl rfl Tryz.func68 (by kernel_rfl) (fun v _ => v = .int .i64 ((dDrop d1 (wname (s.frm : Int))).2 : Int)) (fun _ _ _ h _ => h) (fun _ _ _ => rfl) ?_ ?_
     ·rintro ρ w' he ht ⟨h30, h38, -⟩
      have e30 : ρ 30 = .pointer (some ⟨br, 0, none⟩) := h30
      have e38 : ρ 38 = .string ⟨(wname (s.frm : Int)).toArray⟩ := h38
      simp only [evR, List.map_toArray, List.map_cons, List.map_nil, e30, e38]
      have hp : RkM W0.heap.size w' br s1 d1 := ht
      refine (rdrop_any hp HOK.out HSM.out (HC.out.ext_ he).size (wname (s.frm : Int))).mono ?_
      rintro e w2 hq
      exact tok_rk he hq
     refine tok_call rfl rfl Tryz.func71 (by kernel_rfl) (fun v _ => v = .int .i64 (didE (dDrop d1 (wname (s.frm : Int))).2 : Int)) (fun _ _ _ h _ => h) (fun _ _ _ => rfl) ?_ ?_
     ·rintro ρ w' he ht ⟨h26, h39, -⟩
      have e26 : ρ 26 = .pointer (some ⟨bl, 0, none⟩) := h26
      have e39 : ρ 39 = .int .i64 ((dDrop d1 (wname (s.frm : Int))).2 : Int) := h39
      simp only [evR, List.map_toArray, List.map_cons, List.map_nil, e26, e39]
      have hp : ∃ s2, RkM W0.heap.size w' br s2 (dDrop d1 (wname (s.frm : Int))).1 ∧ ∀ k, rall br s2 k → FFr wr br s1 k := ht
      refine (rldid_any _ (dDrop d1 (wname (s.frm : Int))).2 w').mono ?_
      rintro e w2 ⟨rfl, rfl⟩
      exact ⟨_, rfl, Kb.refl _ _, rfl, hp⟩
     refine tok_val rfl (.int .i64 (didE (dDrop d1 (wname (s.frm : Int))).2 : Int)) (fun _ _ _ => rfl) ?_ ?_
     ·rintro ρ w' he ⟨h40, -⟩
      have e40 : ρ 40 = .int .i64 (didE (dDrop d1 (wname (s.frm : Int))).2 : Int) := h40
      simp [execOp, evR, e40, go_sem]
     refine tok_nil ?_
     rintro ρ w' hle htk ⟨f5, f40, f39, f38, f37, f36, f35, f34, f33, f32, f31, f30, f29, f28, f27, f26, -⟩ -
     replace f5 : ρ 5 = .int .i64 (didE (dDrop d1 (wname (s.frm : Int))).2 : Int) := f5
     simp only [puts, Act.put, List.setIfInBounds_toArray, List.set_cons_zero, List.set_cons_succ]
     rw [f5]
     clear f5 f26 f27 f28 f29 f30 f31 f32 f33 f34 f35 f36 f37 f38 f39 f40
     obtain ⟨s2, hd2, hf2⟩ := (show ∃ s2, RkM W0.heap.size w' br s2 (dDrop d1 (wname (s.frm : Int))).1 ∧ ∀ k, rall br s2 k → FFr wr br s1 k from htk)
     obtain ⟨hc2, hs2⟩ := HC.out.diskF hle hd2 hf2
     have HK2 := Lib.hid (HK.out.trans hs2)
     have HC2 := Lib.hid hc2
     have HXOK := Lib.hid (dDrop_ok HOK.out (wname (s.frm : Int)))
     have HXSM := Lib.hid (HSC1.out.grow (dDrop_grow d1 (wname (s.frm : Int))))
     clear hd2 hf2 hs2 hc2 hle htk c1 k0 hsz
     generalize dDrop d1 (wname (s.frm : Int)) = x at *
     generalize didE x.2 = m at *
     by_cases hm : m = 0
     rotate_left
     ·have hm1 : ¬ (m : Int) = 0 := by omega
      rw [if_pos hm] at HEQ
      clear hm
      go_wp2_with fail
      go_ret
      rw [HW.out, HEQ.out]
      exact ⟨rfl, s2, _, HC2.out, HK2.out⟩
     ·subst hm
      rw [if_neg (by omega)] at HEQ
      obtain ⟨g', cv', w4, hrun, hrow, hxt, hgn⟩ := rseg_tail HC2.out.hl HS1.out (by simp) HC2.out.hx.size (by have := HC0.out; have := HKL.out; have := HKR.out; rw [← HN1.out, HN1B.out]; omega) 61
      have hxe := ext_alloc w' (.cells #[] 96)
      have k0 := (HC2.out.hl.ext hxe).str.blk.cell (i := 2) rfl
      have k4 := (HC2.out.hl.ext hxt).str.blk.cell (i := 2) rfl
      have t4 := (HC2.out.hl.ext hxt).str.blk.thaw 2
      have hsw := RlM.swap (l' := { l1 with segs := t :: r }) (HC2.out.hl.ext hxt).str HC2.out.hl.zl hrow ⟨rfl, rfl, rfl⟩
      obtain ⟨hc4, hs4⟩ := HC2.out.put hsw ((Kb.of_ext (fp := lall bl (.slice (some ⟨g, 0, none⟩) n1 cv)) hxt).trans (Kb.set (lall bl (.slice (some ⟨g, 0, none⟩) n1 cv)) _ bl 2 _ (.inl rfl)) (fun _ h => .inl h)) (fun j hj => hj.elim (fun h => .inl (.inl h)) (fun h => .inr (by
       have h1 : some g' = some j := h
       injection h1 with h1
       omega)))
      have HK4 := Lib.hid (HK2.out.trans hs4)
      have HC4 := Lib.hid hc4
      have HRUN := Lib.hid hrun
      have hcl : Tryz.prog.cellsOf 96 = 3 := by kernel_rfl
      have hsl : (n1 : Int) - 1 = ((t :: r).length : Int) := by rw [HN1B.out]; simp; omega
      have hcv : n1 ≤ cv := by
       rcases HC2.out.hl.row.2 with ⟨h1, _⟩ | ⟨_, _, _, h1, _, _, h2, _⟩
       ·cases h1
       ·injection h1 with h1 h3 h4
        omega
      have hcv1 : ¬ cv = 1 := by omega
      have HNT := Lib.hid (show n1 - 1 = (t :: r).length by rw [HN1B.out]; rfl)
      clear hrow hxt hgn hxe hsw hc4 hs4 hrun
      go_wp2_with (first
       | (at_builtin; refine wpList_append_run rfl (.tmp 45) (.tmp 50) 61 rfl rfl (by show Value.slice (some ⟨g, 3, none⟩) (n1 - 1) (cv - 1) = _; rw [HNT.out]) HRUN.out ?_)
       | go_in)
      have hm2 : rsegN bl (w4.setCell ⟨bl, 2, none⟩ (.slice (some ⟨g', 0, none⟩) (t :: r).length cv')) = r.length + 1 := by
       unfold rsegN
       rw [HC4.out.hl.str.blk.cell (i := 2) rfl]
       rfl
      refine ⟨⟨r.length + 1, x.1, { l1 with segs := t :: r }, s2, _, HEQ.out, rfl, by have := HKL.out; have := HKR.out; omega, HXOK.out, HXSM.out.more (by have := HKL.out; have := HKR.out; omega), by simp, HC4.out, HK4.out⟩, ?_⟩
      rw [HMEAS.out, HN1B.out]
      exact Nat.lt_of_le_of_lt (Nat.le_of_eq hm2) (Nat.lt_succ_self _)
end Go.Proofs.YtagghghoimpofaaGreatDoor

/-
 Layer 16: what stands in memory while the document's log is read.
-/
namespace Go.Proofs.YtagghghoimpofaaGreatDoor
open Go Go.RowKit Mono
set_option linter.unusedVariables false
set_option linter.unusedSimpArgs false
set_option maxRecDepth 100000
set_option maxHeartbeats 4000000

/-- A segment is appended to any row. -/
theorem rseg_append0 {z bl bd : Nat} {W : World} {l : Lg} {v : Value} (h : RlM z W bl bd v l) (hz : z ≤ W.heap.size) (hlen : l.segs.length ≤ 1000000000) (s : WSeg) (ty : TypeId) :
  ∃ g' cv' w', (Builtin.append_ #[61, 61] ty #[v, .slice (some ⟨W.heap.size, 0, none⟩) 1 1]).run Tryz.prog (W.alloc (.cells #[.int .i64 (s.frm : Int), .int .i64 (s.count : Int), .int .i64 (s.bytes : Int)] 96)) = .ok (.slice (some ⟨g', 0, none⟩) (l.segs.length + 1) cv') w' ∧
   w'.ownsRow z 96 3 (.slice (some ⟨g', 0, none⟩) (l.segs.length + 1) cv') (l.segs ++ [s]).length (scells (l.segs ++ [s])) ∧ Kb (fun k => v.ownBlock = some k) W w' ∧ BlkT w' bl 63 (rlstr v bd l) ∧ (v.ownBlock = some g' ∨ W.heap.size ≤ g') := by
 obtain ⟨i0, hi, hz0, hz1, hz2⟩ := info_parts infoRSeg
 have hb := Blk.new W #[.int .i64 (s.frm : Int), .int .i64 (s.count : Int), .int .i64 (s.bytes : Int)] 96
 obtain ⟨v', w', h1, h2, h3, -, h4⟩ := run_append_own_at (P := Tryz.prog) (W.alloc (.cells #[.int .i64 (s.frm : Int), .int .i64 (s.count : Int), .int .i64 (s.bytes : Int)] 96)) z 61 ty 96 i0 _ 3 24 Tryz.underlying61 hi hz0 hz1 hz2 rfl (by decide)
  _ l.segs.length (scells l.segs) (h.row.alloc _) ⟨W.heap.size, 0, none⟩ 1 1 s.cells rfl (fun j u hu => by rw [add_at, Nat.zero_add]; exact hb.cell hu) (by rw [segC]; simp [Value.oneCell']) (by unfold maxLen; omega) (by omega) (by rw [World.size_alloc]; omega)
 have hkb : Kb (fun k => v.ownBlock = some k) W w' := (Kb.of_ext (fp := fun k => v.ownBlock = some k) (ext_alloc W _)).trans (Kb.grown_ h3 (fun k e => e)) (fun _ h => .inl h)
 obtain ⟨g', cv', rfl⟩ : ∃ g' cv', v' = .slice (some ⟨g', 0, none⟩) (l.segs.length + 1) cv' := by
  rcases h2.2 with ⟨_, hn⟩ | ⟨g', cap, cur, hv, _⟩
  ·omega
  ·exact ⟨g', cap, hv⟩
 refine ⟨g', cv', w', h1, ?_, hkb, h.str.kb hkb (fun e => ?_), ?_⟩
 ·rw [List.length_append, List.length_singleton, scells_append, scells_one]
  exact h2
 ·obtain ⟨cur, hbb⟩ := row_type h.row e
  have := h.str
  unfold BlkT at this
  rw [this] at hbb
  injection hbb with hbb
  injection hbb with _ hbb
  revert hbb
  decide
 ·rcases h4 with h4 | h4
  ·exact .inl h4.symm
  ·have h5 : some g' = some (W.alloc (.cells #[.int .i64 (s.frm : Int), .int .i64 (s.count : Int), .int .i64 (s.bytes : Int)] 96)).heap.size := h4
   injection h5 with h5
   rw [World.size_alloc] at h5
   exact .inr (by omega)
/-- What stands while segments are read. -/
structure RlJ (W0 W : World) (br bl : Nat) (sr : RSt) (d : Dk) (size fails : Nat) (ss : List WSeg) (v : Value) (acc : List (List UInt8)) (va : Value) (wr : World) : Prop where
 cx : Rx W0 wr br bl sr d v ⟨ss, size, 0, fails⟩
 kb : Kb (fun k => k = bl) W wr
 vnew : ∀ j, v.ownBlock = some j → W.heap.size ≤ j
 acc : BssO wr W.heap.size va acc
theorem RlJ.ext {W0 W : World} {br bl : Nat} {sr : RSt} {d : Dk} {size fails : Nat} {ss : List WSeg} {v va : Value} {acc : List (List UInt8)} {wr w : World} (h : RlJ W0 W br bl sr d size fails ss v acc va wr) (k : Ext wr w) : RlJ W0 W br bl sr d size fails ss v acc va w :=
 ⟨h.cx.ext k, h.kb.trans (Kb.of_ext (fp := fun k => k = bl) k) (fun _ h => .inl h), h.vnew, h.acc.ext k⟩
theorem RlM.ltype {z bl bd : Nat} {W : World} {v : Value} {l : Lg} (h : RlM z W bl bd v l) : ∀ j (C : Array Value) (T : TypeId) fz, lall bl v j → W.heap[j]? = some (.cells C T fz) → T = 63 ∨ T = 96 := by
 rintro j C T fz (rfl | hq) hb
 ·have := h.str
  unfold BlkT at this
  rw [this] at hb
  injection hb with hb
  injection hb with _ hb _
  exact .inl hb.symm
 ·obtain ⟨cur, hb2⟩ := row_type h.row hq
  rw [hb2] at hb
  injection hb with hb
  injection hb with _ hb _
  exact .inr hb.symm
/-- A segment is laid behind the others. -/
theorem RlJ.seg {W0 W : World} {br bl : Nat} {sr : RSt} {d : Dk} {size fails : Nat} {ss : List WSeg} {v va : Value} {acc : List (List UInt8)} {wr : World} (h : RlJ W0 W br bl sr d size fails ss v acc va wr) (hlen : ss.length ≤ 1000000000) (s : WSeg) (ty : TypeId) :
  ∃ g' cv' w4, (Builtin.append_ #[61, 61] ty #[v, .slice (some ⟨wr.heap.size, 0, none⟩) 1 1]).run Tryz.prog (wr.alloc (.cells #[.int .i64 (s.frm : Int), .int .i64 (s.count : Int), .int .i64 (s.bytes : Int)] 96)) = .ok (.slice (some ⟨g', 0, none⟩) (ss.length + 1) cv') w4 ∧
   w4.cell? ⟨bl, 2, none⟩ = some v ∧ w4.frozen? ⟨bl, 2, none⟩ = false ∧ Kb (lall bl v) wr w4 ∧ Kb (lall bl v) wr (w4.setCell ⟨bl, 2, none⟩ (.slice (some ⟨g', 0, none⟩) (ss.length + 1) cv')) ∧ RlJ W0 W br bl sr d size fails (ss ++ [s]) (.slice (some ⟨g', 0, none⟩) (ss.length + 1) cv') acc va (w4.setCell ⟨bl, 2, none⟩ (.slice (some ⟨g', 0, none⟩) (ss.length + 1) cv')) := by
 have hlen' : (⟨ss, size, 0, fails⟩ : Lg).segs.length ≤ 1000000000 := hlen
 obtain ⟨g', cv', w4, hrun, hrow, hkb, hstr, hg⟩ := rseg_append0 h.cx.hl h.cx.hx.size hlen' s ty
 have hsw := RlM.swap (l := ⟨ss, size, 0, fails⟩) (l' := ⟨ss ++ [s], size, 0, fails⟩) hstr h.cx.hl.zl hrow ⟨rfl, rfl, rfl⟩
 have hk4 : Kb (lall bl v) wr (w4.setCell ⟨bl, 2, none⟩ (.slice (some ⟨g', 0, none⟩) (ss.length + 1) cv')) := (hkb.mono fun b hb => .inr hb).trans (Kb.set (lall bl v) w4 bl 2 _ (.inl rfl)) (fun _ h => .inl h)
 have hall : ∀ j, lall bl (.slice (some ⟨g', 0, none⟩) (ss.length + 1) cv') j → lall bl v j ∨ wr.heap.size ≤ j := by
  rintro j (hj | hj)
  ·exact .inl (.inl hj)
  ·obtain rfl : g' = j := by simpa [Value.ownBlock] using hj
   exact hg.imp .inr id
 obtain ⟨hc4, hs4⟩ := h.cx.put hsw hk4 hall
 refine ⟨g', cv', w4, hrun, hstr.blk.cell (i := 2) rfl, hstr.blk.thaw 2, hkb.mono fun b hb => .inr hb, hk4, hc4, ?_, ?_, ?_⟩
 ·refine ⟨hk4.os.trans h.kb.os, hk4.tape.trans h.kb.tape, hk4.output.trans h.kb.output, Nat.le_trans h.kb.size hk4.size, fun k hk hn => (hk4.block k (Nat.lt_of_lt_of_le hk h.kb.size) ?_).trans (h.kb.block k hk hn)⟩
  rintro (hq | hq)
  ·exact hn hq
  ·exact Nat.not_lt.2 (h.vnew k hq) hk
 ·intro j hj
  obtain rfl : g' = j := by simpa [Value.ownBlock] using hj
  rcases hg with hg | hg
  ·exact h.vnew _ hg
  ·exact Nat.le_trans h.kb.size hg
 ·refine h.acc.kb hk4 ?_
  rintro j C T fz hq hb
  rcases hq with rfl | hq
  ·have := h.cx.hl.str
   unfold BlkT at this
   rw [this] at hb
   injection hb with hb
   injection hb with _ hb _
   rw [← hb]
   decide
  ·obtain ⟨cur, hb2⟩ := row_type h.cx.hl.row hq
   rw [hb2] at hb
   injection hb with hb
   injection hb with _ hb _
   rw [← hb]
   decide
/-- What blocks the document's disk has. -/
theorem RkM.types {z br : Nat} {W : World} {s : RSt} {d : Dk} (hd : RkM z W br s d) : ∀ k, rall br s k → ∀ (C : Array Value) (T : TypeId) fz, W.heap[k]? = some (.cells C T fz) → T = 45 ∨ T = 114 ∨ T = 5 := by
 rintro k hk C T fz hb
 rcases hk with rfl | hj | ⟨m, hm, hj⟩
 ·have h := hd.str
  unfold BlkT at h
  rw [h] at hb
  injection hb with hb
  injection hb with _ hb _
  exact .inl hb.symm
 ·obtain ⟨cur2, h2⟩ := row_type hd.row hj
  rw [h2] at hb
  injection hb with hb
  injection hb with _ hb _
  exact .inr (.inl hb.symm)
 ·obtain ⟨_, C', fz', h2⟩ := (hd.bytes m hm).typed k hj
  rw [h2] at hb
  injection hb with hb
  injection hb with _ hb _
  exact .inr (.inr hb.symm)
/-- Records are laid behind the others. -/
theorem RlJ.app {W0 W : World} {br bl : Nat} {sr : RSt} {d : Dk} {size fails : Nat} {ss : List WSeg} {v va vr : Value} {acc ls : List (List UInt8)} {wr : World} (h : RlJ W0 W br bl sr d size fails ss v acc va wr) (hz : W0.heap.size ≤ W.heap.size) (hbl : bl < W.heap.size) (hr : BssO wr W.heap.size vr ls) (hl : acc.length + ls.length ≤ 1000000000) (ty : TypeId) :
  ∃ A n c w', (Builtin.append_ #[47, 47] ty #[va, vr]).run Tryz.prog wr = .ok (.slice A n c) w' ∧ Kb (fun k => va.ownBlock = some k) wr w' ∧ (∀ j (C : Array Value) (T : TypeId) fz, va.ownBlock = some j → wr.heap[j]? = some (.cells C T fz) → T = 34) ∧ RlJ W0 W br bl sr d size fails ss v (acc ++ ls) (.slice A n c) w' := by
 obtain ⟨v', w', hrun, ho, hg, ⟨A, n, c, rfl⟩⟩ := bss_append h.acc hr h.kb.size hl ty
 have hk : Kb (fun k => va.ownBlock = some k) wr w' := Kb.grown_ hg fun k e => e
 obtain ⟨vs, h1, -⟩ := h.acc
 have hty : ∀ j, va.ownBlock = some j → ∃ cur, wr.heap[j]? = some (.cells cur 34 (0, 0)) := fun j hj => row_type h1 hj
 have hlow : ∀ j, va.ownBlock = some j → W.heap.size ≤ j := fun j hj => (World.ownsRow.lt h1 j hj).1
 have dis : ∀ j T L, va.ownBlock = some j → BlkT wr j T L → T ≠ 34 → False := fun j T L hj hb hT => by
  obtain ⟨cur, hc⟩ := hty j hj
  unfold BlkT at hb
  rw [hb] at hc
  injection hc with hc
  injection hc with _ hc
  exact hT hc
 have hdd := h.cx.hd
 have hdl : ∀ k, rall br sr k → ¬ va.ownBlock = some k := by
  rintro k hk hq
  obtain ⟨cur, hc⟩ := hty k hq
  rcases hdd.types k hk _ _ _ hc with h | h | h <;> revert h <;> decide
 have hll : ∀ k, lall bl v k → ¬ va.ownBlock = some k := by
  rintro k (rfl | hk) hq
  ·exact dis _ _ _ hq h.cx.hl.str (by decide)
  ·obtain ⟨cur, hc⟩ := hty k hq
   obtain ⟨cur2, hc2⟩ := row_type h.cx.hl.row hk
   rw [hc2] at hc
   injection hc with hc
   injection hc with _ hc
   revert hc
   decide
 refine ⟨A, n, c, w', hrun, hk, fun j C T fz hj hb => ?_, ⟨?_, h.cx.hl.kb hk hll, hk.ext h.cx.hx (fun b hb => Nat.le_trans hz (hlow b hb))⟩, ?_, h.vnew, ho⟩
 ·obtain ⟨cur, hc⟩ := hty j hj
  rw [hc] at hb
  injection hb with hb
  injection hb with _ hb _
  exact hb.symm
 ·exact hdd.kb hk hdl
 ·exact ⟨hk.os.trans h.kb.os, hk.tape.trans h.kb.tape, hk.output.trans h.kb.output, Nat.le_trans h.kb.size hk.size, fun k hk2 hn => (hk.block k (Nat.lt_of_lt_of_le hk2 h.kb.size) fun hq => Nat.not_lt.2 (hlow k hq) hk2).trans (h.kb.block k hk2 hn)⟩
theorem index_rint {w : World} {o : Oper} {f : Operand → Value} {x y : Operand} {b c n i : Nat} (hop : o.op = .indexAddr 89 x y)
  (hx : f x = .slice (some ⟨b, 0, none⟩) n c) (hy : f y = .int .i64 (i : Int)) (hi : i < n) :
  (execOp f o).run Tryz.prog w = .ok (.value (.pointer (some ⟨b, i, none⟩))) w := by
 have hi' : (i : Int) < (n : Int) := by omega
 have h0 : (0 : Int) ≤ (i : Int) := by omega
 have hk : (sizeOf 3).run Tryz.prog w = .ok 1 w := by kernel_rfl
 simp [execOp, hop, hx, hy, Instr.indexAt, run_underlying Tryz.underlying89, hi', h0, hk, add_at, go_sem]
 intro h
 omega
theorem rsegments_any {z br : Nat} {W : World} {s : RSt} {d : Dk} (h : RkM z W br s d) (hok : d.Ok) :
  Calls Tryz.prog 49 #[.pointer (some ⟨br, 0, none⟩)] W fun e w' => ∃ A c, e = .returned (.slice A (wnums d).length c) ∧ w'.ownsRow W.heap.size 3 1 (.slice A (wnums d).length c) (wnums d).length ((wnums d).map iv64) ∧ Ext W w' := by
 obtain ⟨i0, hi, hz0, hz1, hz2⟩ := info_parts infoIn
 have HI := Lib.hid hi
 have HZ0 := Lib.hid hz0
 have HZ1 := Lib.hid hz1
 have HZ2 := Lib.hid hz2
 have HNM := Lib.hid (rnames_any h hok)
 have HOK := Lib.hid hok
 clear h hok hi hz0 hz1 hz2
 go_enter Tryz.func49, Tryz.ntmps49
 go_wp2_with fail
 refine HNM.out.mono ?_
 rintro e w1 ⟨vn, rfl, hss, hx1⟩
 obtain ⟨names, hnames⟩ : ∃ l, l = d.fs.map fun f => f.name := ⟨_, rfl⟩
 rw [← hnames] at hss
 have hfew : names.length ≤ 64 := by rw [hnames]; simpa using HOK.out.few
 have HNL := Lib.hid (show ∀ s ∈ names, s.length ≤ 9223372036854775807 by
  rw [hnames]
  intro s hs
  obtain ⟨f, hf, rfl⟩ := List.mem_map.1 hs
  have := HOK.out.names f hf
  unfold dname at this
  simp at this
  omega)
 have HW := Lib.hid (show wnums d = (names.map wnum).filter fun n => decide (0 < n) by rw [hnames, List.map_map]; rfl)
 obtain ⟨A, c, rfl, s1, s2, s3⟩ := hss.at_
 unfold maxLen at s2
 have HS3 := Lib.hid s3
 have HX1 := Lib.hid hx1
 clear hnames hss s3 hx1 HNM s1 s2
 go_wp2_with fail
 go_loopw [3, 5] (fun nv kv wr => ∃ (k : Nat) (ns : List Nat), k ≤ names.length ∧ kv = .int .i64 (k : Int) ∧ ns = ((names.take k).map wnum).filter (fun n => decide (0 < n)) ∧ wr.ownsRow w1.heap.size 3 1 nv ns.length (ns.map iv64) ∧ Ext w1 wr) (fun _ kv _ => names.length - (intOf kv).toNat)
 case atStart => exact ⟨0, [], Nat.zero_le _, rfl, rfl, World.ownsRow_nil _ _ _ _, Ext.refl _⟩
 case round =>
  obtain ⟨k, ns, hk, rfl, hns, hrow, hx⟩ := hrel
  have hnl : ns.length ≤ 64 := by
   rw [hns]
   refine Nat.le_trans (List.length_filter_le _ _) ?_
   simp
   omega
  have HNS := Lib.hid hns
  have HXX := Lib.hid hx
  clear hns hx
  by_cases hlt : k < names.length
  ·obtain ⟨b, off, rfl, hb, hcell⟩ := HS3.out (by omega)
   obtain ⟨s, hs⟩ : ∃ s, names[k]? = some s := ⟨_, List.getElem?_eq_getElem hlt⟩
   have kc := (HXX.out.cell (p := ⟨b, off + k, none⟩) hb).trans (hcell k s hs)
   have HNU := Lib.hid (refWNumber_any s wr (HNL.out s (List.mem_of_getElem? hs)))
   have HT := Lib.hid (wnums_take names k s hs)
   unfold strV at kc HNU
   clear hcell hb hs
   have hk1 : (k : Int) < (names.length : Int) := by omega
   have hk2 : IntKind.i64.wrap ((k : Int) + 1) = ((k + 1 : Nat) : Int) := by rw [IntWalk.i64_in _ (by omega)]; omega
   generalize wnum s = n at *
   go_wp2_with fail
   refine HNU.out.mono ?_
   rintro e w2 ⟨rfl, rfl⟩
   by_cases hp : 0 < n
   ·rw [if_pos hp] at HT
    go_wp2_with (first
     | (at_builtin; refine wpList_append_own _ rfl (.tmp 22) (.tmp 24) 89 rfl w1.heap.size 3 i0 (.int .i64 0) 1 8 Tryz.underlying89 HI.out HZ0.out HZ1.out HZ2.out rfl (by decide) _ _ _ rfl (hrow.alloc _) ⟨wr.heap.size, 0, none⟩ 1 1 [.int .i64 (n : Int)] rfl rfl (cell_one_new _ _ _) (by simp [Value.oneCell']) (by unfold maxLen; omega) (by omega) (by have := HXX.out.size; simp; omega) ?_; intro v' w3 hown' hg3 hnil3; go_frame)
     | go_in)
    go_roundw
    case rel =>
     refine ⟨k + 1, ns ++ [n], by omega, by go_num, ?_, by simpa [iv64] using hown', ?_⟩
     ·rw [HT.out, HNS.out]
     ·exact grown_ext4 (HXX.out.trans (ext_alloc _ _)) (hrow.alloc _) (Nat.le_refl _) hg3
    case measure => simp [intOf]; omega
   ·rw [if_neg hp, List.append_nil] at HT
    obtain rfl : n = 0 := by omega
    go_wp2_with fail
    go_roundw
    case rel => exact ⟨k + 1, ns, by omega, by go_num, by rw [HT.out, HNS.out], hrow, HXX.out⟩
    case measure => simp [intOf]; omega
  ·have hns : ns = wnums d := by rw [HNS.out, HW.out, List.take_of_length_le (by omega)]
   have hk1 : ¬ (k : Int) < (names.length : Int) := by omega
   have hrow2 : wr.ownsRow W.heap.size 3 1 u3 ns.length (ns.map iv64) := row_down hrow HX1.out.size
   obtain ⟨A5, n5, c5, rfl⟩ : ∃ A n c, u3 = .slice A n c := isSl_row hrow
   have hn5 : n5 = ns.length := by
    rcases hrow.2 with ⟨h1, h2⟩ | ⟨_, _, _, h1, _⟩
    ·injection h1 with _ h1 _; omega
    ·injection h1
   subst hn5
   rw [hns] at hrow2
   have HROW := Lib.hid hrow2
   have HNN := Lib.hid hns
   have HXF := Lib.hid (HX1.out.trans HXX.out)
   clear hrow hrow2 hns
   go_wp2_with fail
   go_ret
   rw [HNN.out]
   exact ⟨_, _, rfl, HROW.out, HXF.out⟩
end Go.Proofs.YtagghghoimpofaaGreatDoor

/-
 Layer 16: the document's log: Open.
-/
namespace Go.Proofs.YtagghghoimpofaaGreatDoor
open Go Go.RowKit Mono
set_option linter.unusedVariables false
set_option linter.unusedSimpArgs false
set_option maxRecDepth 100000
set_option maxHeartbeats 4000000

/-- What the document's Open tells. -/
def ROpenQ (W0 W : World) (br : Nat) (s : RSt) (d : Dk) (size : Int) (e : Ending) (w' : World) : Prop := ∃ s', match (wOpen d size).l with
 | none => e = .returned (.tuple #[.pointer none, .slice none 0 0, .int .i64 ((wOpen d size).e : Int)]) ∧ RkS W0.heap.size W w' br s d s' (wOpen d size).d
 | some l => ∃ bl va v, e = .returned (.tuple #[.pointer (some ⟨bl, 0, none⟩), va, .int .i64 0]) ∧ Rx W0 w' br bl s' (wOpen d size).d v l ∧ Cont (rall br s) W (rfp br bl s' v) w' ∧ BssF w' W.heap.size va (wOpen d size).r (rfp br bl s' v)
theorem ROpenQ.bad {W0 W : World} {br : Nat} {s s' : RSt} {d : Dk} {size : Int} {e : Ending} {w' : World} {d' : Dk} {n : Nat} (h : wOpen d size = ⟨d', none, [], n⟩) (he : e = .returned (.tuple #[.pointer none, .slice none 0 0, .int .i64 (n : Int)])) (hs : RkS W0.heap.size W w' br s d s' d') : ROpenQ W0 W br s d size e w' := by
 refine ⟨s', ?_⟩
 rw [h]
 exact ⟨he, hs⟩
theorem ROpenQ.good {W0 W : World} {br bl : Nat} {s s' : RSt} {d : Dk} {size : Int} {e : Ending} {w' : World} {d' : Dk} {l : Lg} {r : List (List UInt8)} {va v : Value} (h : wOpen d size = ⟨d', some l, r, 0⟩) (he : e = .returned (.tuple #[.pointer (some ⟨bl, 0, none⟩), va, .int .i64 0])) (hc : Rx W0 w' br bl s' d' v l) (hk : Cont (rall br s) W (rfp br bl s' v) w') (hb : BssF w' W.heap.size va r (rfp br bl s' v)) : ROpenQ W0 W br s d size e w' := by
 refine ⟨s', ?_⟩
 rw [h]
 exact ⟨bl, va, v, he, hc, hk, hb⟩
/-- Open's log, before it is read. -/
theorem rlog_new {W0 w : World} {br : Nat} {s : RSt} {d : Dk} (hd : RkM W0.heap.size w br s d) (hx : Ext W0 w) (size : Nat) :
  Rx W0 (w.alloc (.cells #[.pointer (some ⟨br, 0, none⟩), .int .i64 (size : Int), .slice none 0 0, .int .i64 0, .int .i64 (d.fails : Int)] 63)) br w.heap.size s d (.slice none 0 0) ⟨[], size, 0, d.fails⟩ :=
 ⟨hd.ext (ext_alloc _ _), ⟨BlkT.new w #[.pointer (some ⟨br, 0, none⟩), .int .i64 (size : Int), .slice none 0 0, .int .i64 0, .int .i64 (d.fails : Int)] 63, World.ownsRow_nil _ _ _ _, hx.size⟩, hx.trans (ext_alloc _ _)⟩
/-- A log that is let go again. -/
theorem Cont.rks {W0 W w : World} {br bl : Nat} {s s' : RSt} {d d' : Dk} {v : Value} {l : Lg} (hc : Rx W0 w br bl s' d' v l) (hk : Cont (rall br s) W (rfp br bl s' v) w) : RkS W0.heap.size W w br s d s' d' :=
 ⟨hc.hd, hk.kb, fun k hk2 => hk.sub k (.inl hk2)⟩
theorem Rx.sure {W0 w : World} {br bl : Nat} {s : RSt} {d : Dk} {v : Value} {l : Lg} (h : Rx W0 w br bl s d v l) (n : Nat) :
  Rx W0 (w.setCell ⟨bl, 3, none⟩ (.int .i64 (n : Int))) br bl s d v { l with sure := n } ∧ Cont (rfp br bl s v) w (rfp br bl s v) (w.setCell ⟨bl, 3, none⟩ (.int .i64 (n : Int))) :=
 h.put (h.hl.put (l' := { l with sure := n }) 3 (.int .i64 (n : Int)) rfl rfl) (Kb.set _ w bl 3 _ (.inl rfl)) (fun _ h => .inl h)
/-- What was read, told of the disk. -/
theorem RlJ.done {W0 W W1 wr : World} {br bl : Nat} {s : RSt} {d : Dk} {size fails : Nat} {ss : List WSeg} {v va : Value} {acc : List (List UInt8)} {o : Obj} (h : RlJ W0 W1 br bl s d size fails ss v acc va wr) (hw : W1 = W.alloc o) (hbl : bl = W.heap.size) (hd : RkM W0.heap.size W br s d) (hz : W0.heap.size ≤ W.heap.size) :
  Cont (rall br s) W (rfp br bl s v) wr ∧ BssF wr W.heap.size va acc (rfp br bl s v) := by
 subst hw hbl
 have hx := ext_alloc W o
 have hs : (W.alloc o).heap.size = W.heap.size + 1 := by rw [World.size_alloc]
 refine ⟨⟨⟨h.kb.os.trans hx.os, h.kb.tape.trans hx.tape, h.kb.output.trans hx.output, Nat.le_trans hx.size h.kb.size, fun b hb hn => (h.kb.block b (by omega) (by omega)).trans (hx.block b hb)⟩, ?_⟩, ?_⟩
 ·rintro k (hk | rfl | hk)
  ·exact .inl hk
  ·exact .inr (Nat.le_refl _)
  ·have := h.vnew k hk
   exact .inr (by omega)
 ·refine (BssF.ofT h.acc ?_).low (by omega)
  rintro k C T fz (hk | hk) hzk hb
  ·have := hd.lt k hk
   omega
  ·rcases hk with rfl | hk
   ·omega
   ·obtain ⟨cur, hb2⟩ := row_type h.cx.hl.row hk
    rw [hb2] at hb
    injection hb with hb
    injection hb with _ hb _
    rw [← hb]
    decide
theorem wopen_none {d : Dk} {n : Nat} (hon : d.on = true) (h1 : 1 ≤ n) (h2 : n ≤ 1048576) (h : wReadA d [] [] (wnums d) = none) : wOpen d (n : Int) = ⟨d, none, [], 160⟩ := by
 unfold wOpen
 rw [if_neg (by simp [hon]), if_neg (by omega), h]
theorem wopen_bad {d : Dk} {n : Nat} {ss : List WSeg} {a : List (List UInt8)} {t : Bool} (hon : d.on = true) (h1 : 1 ≤ n) (h2 : n ≤ 1048576) (h : wReadA d [] [] (wnums d) = some (ss, a, t)) (hne : ss ≠ []) (he : (wMend d (ss.getLastD ⟨1, 0, 0⟩) t).2 ≠ 0) :
  wOpen d (n : Int) = ⟨(wMend d (ss.getLastD ⟨1, 0, 0⟩) t).1, none, [], (wMend d (ss.getLastD ⟨1, 0, 0⟩) t).2⟩ := by
 unfold wOpen
 rw [if_neg (by simp [hon]), if_neg (by omega), h]
 dsimp only
 rw [if_neg hne, if_pos he]
theorem wopen_good {d : Dk} {n : Nat} {ss : List WSeg} {a : List (List UInt8)} {t : Bool} (hon : d.on = true) (h1 : 1 ≤ n) (h2 : n ≤ 1048576) (h : wReadA d [] [] (wnums d) = some (ss, a, t)) (hne : ss ≠ []) (he : (wMend d (ss.getLastD ⟨1, 0, 0⟩) t).2 = 0) :
  wOpen d (n : Int) = wOpened (wMend d (ss.getLastD ⟨1, 0, 0⟩) t).1 ss a n d.fails := by
 unfold wOpen
 rw [if_neg (by simp [hon]), if_neg (by omega), h]
 dsimp only
 rw [if_neg hne, if_neg (by omega), Int.toNat_natCast]
theorem wopen_new {d : Dk} {n : Nat} {a : List (List UInt8)} {t : Bool} (hon : d.on = true) (h1 : 1 ≤ n) (h2 : n ≤ 1048576) (h : wReadA d [] [] (wnums d) = some ([], a, t)) :
  wOpen d (n : Int) = if (dMake d (wname 1)).2 ≠ 0 then ⟨(dMake d (wname 1)).1, none, [], (dMake d (wname 1)).2⟩ else wOpened (dMake d (wname 1)).1 [⟨1, 0, 0⟩] a n d.fails := by
 unfold wOpen
 rw [if_neg (by simp [hon]), if_neg (by omega), h]
 dsimp only
 rw [if_pos rfl, Int.toNat_natCast]
theorem ints_cell {w : World} {b n N i m : Nat} {g c : Nat} {ns : List Nat} (h : w.ownsRow b 3 1 (.slice (some ⟨g, 0, none⟩) n c) N (ns.map iv64)) (hN : N = ns.length) (hi : ns[i]? = some m) : w.cell? ⟨g, i, none⟩ = some (.int .i64 (m : Int)) := by
 subst hN
 rcases (ow_of_row h).form with ⟨hq, -⟩ | ⟨g', cap, hq, -, -, -, -, hcell, -⟩
 ·injection hq with hq _ _
  cases hq
 ·injection hq with hq _ _
  injection hq with hq
  injection hq with hq _ _
  subst hq
  exact hcell i (iv64 m) (by rw [List.getElem?_map, hi]; rfl)
theorem rlOpen_any {W0 W : World} {br c0 : Nat} {s : RSt} {d : Dk} (hd : RkM W0.heap.size W br s d) (hx : Ext W0 W) (hok : d.Ok) (hsc : d.SmallC c0) (hc0 : c0 + 10 ≤ 1000000000) (size : Int) :
  Calls Tryz.prog 17 #[.pointer (some ⟨br, 0, none⟩), .int .i64 size] W (ROpenQ W0 W br s d size) := by
 have k2 := hd.str.blk.cell (i := 2) rfl
 have k3 := hd.str.blk.cell (i := 3) rfl
 cases hon : d.on
 ·rw [hon] at k2
  simp only [Bool.not_false] at k2
  have HU := Lib.hid (show wOpen d size = ⟨d, none, [], 150⟩ by unfold wOpen; rw [if_pos hon])
  have HS := Lib.hid (RkS.refl hd)
  clear hon hd hx hok hsc
  go_enter Tryz.func17, Tryz.ntmps17
  go_wp2_with fail
  go_ret3
  exact ROpenQ.bad HU.out rfl HS.out
 rw [hon] at k2
 simp only [Bool.not_true] at k2
 by_cases hsz : size < 1 ∨ 1048576 < size
 ·have HU := Lib.hid (show wOpen d size = ⟨d, none, [], 2⟩ by unfold wOpen; rw [if_neg (by simp [hon]), if_pos hsz])
  have HS := Lib.hid (RkS.refl hd)
  clear hon hd hx hok hsc
  by_cases hs1 : size < 1
  ·go_enter Tryz.func17, Tryz.ntmps17
   go_wp2_with fail
   go_ret3
   exact ROpenQ.bad HU.out rfl HS.out
  ·have hs2 : 1048576 < size := hsz.resolve_left hs1
   clear hsz
   go_enter Tryz.func17, Tryz.ntmps17
   go_wp2_with fail
   go_ret3
   exact ROpenQ.bad HU.out rfl HS.out
 obtain ⟨sz, rfl⟩ : ∃ n : Nat, size = (n : Int) := ⟨size.toNat, by omega⟩
 have hsz1 : 1 ≤ sz := by omega
 have hsz2 : sz ≤ 1048576 := by omega
 have hs1 : ¬ (sz : Int) < 1 := by omega
 have hs2 : ¬ (1048576 : Int) < (sz : Int) := by omega
 have HON := Lib.hid hon
 have HZ1 := Lib.hid hsz1
 have HZ2 := Lib.hid hsz2
 have HD := Lib.hid hd
 have HX := Lib.hid hx
 have HOK := Lib.hid hok
 have HSC := Lib.hid hsc
 have HC0 := Lib.hid hc0
 obtain ⟨bl, hbl⟩ : ∃ bl, bl = W.heap.size := ⟨_, rfl⟩
 have hnew := rlog_new hd hx sz
 obtain ⟨W1, hW1⟩ : ∃ W1, W1 = W.alloc (.cells #[.pointer (some ⟨br, 0, none⟩), .int .i64 (sz : Int), .slice none 0 0, .int .i64 0, .int .i64 (d.fails : Int)] 63) := ⟨_, rfl⟩
 have HBL1 := Lib.hid (show bl < W1.heap.size by rw [hbl, hW1, World.size_alloc]; omega)
 rw [← hW1, ← hbl] at hnew
 have HN := Lib.hid hnew
 have HSG := Lib.hid (rsegments_any hnew.hd hok)
 have HW1 := Lib.hid hW1
 have HBL := Lib.hid hbl
 clear hon hd hx hok hsc hc0 hnew hsz hsz1 hsz2
 go_enter Tryz.func17, Tryz.ntmps17
 go_wp2_with fail
 rw [← hW1, ← hbl]
 clear hW1 hbl k2 k3 hs1 hs2
 refine HSG.out.mono ?_
 rintro e w1 ⟨A5, c5, rfl, hrow, hx1⟩
 obtain ⟨ns, hns⟩ : ∃ ns, ns = wnums d := ⟨_, rfl⟩
 rw [← hns] at hrow
 rw [← hns]
 have hfew : ns.length ≤ 64 := by rw [hns]; exact wnums_len HOK.out
 have HNB := Lib.hid (show ∀ n ∈ ns, n ≤ 999999999999 by rw [hns]; exact fun n hn => (wnums_mem hn).2)
 have HWN := Lib.hid hns
 have HROW0 := Lib.hid hrow
 have HJ := Lib.hid (show RlJ W0 W1 br bl s d sz d.fails [] (.slice none 0 0) [] (.slice none 0 0) w1 from
  ⟨HN.out.ext hx1, Kb.of_ext hx1, fun j h => (by cases h), [], World.ownsRow_nil _ _ _ _, trivial⟩)
 obtain ⟨NL, hNL⟩ : ∃ n, n = ns.length := ⟨_, rfl⟩
 rw [← hNL]
 rw [← hNL] at HROW0 hfew
 have HNL := Lib.hid hNL
 clear hns hrow HSG hNL
 have HX1 := Lib.hid hx1
 clear hx1
 go_wp2_with fail
 go_loopw [8, 10] (fun av kv w => ∃ (k : Nat) (ss : List WSeg) (acc : List (List UInt8)) (v : Value) (s' : RSt) (d' : Dk), k ≤ NL ∧ kv = .int .i64 (k : Int) ∧ w.ownsRow W1.heap.size 3 1 (.slice A5 NL c5) NL (ns.map iv64) ∧
  (((k < NL ∨ NL = 0) ∧ s' = s ∧ d' = d ∧ ss.length = k ∧ acc.length ≤ k * 1048576 ∧ wReadA d [] [] ns = wReadA d ss acc (ns.drop k) ∧ RlJ W0 W1 br bl s d sz d.fails ss v acc av w) ∨
   (k = NL ∧ 0 < k ∧ ∃ torn, wReadA d [] [] ns = some (ss, acc, torn) ∧ ss ≠ [] ∧ wMend d (ss.getLastD ⟨1, 0, 0⟩) torn = (d', 0) ∧ Rx W0 w br bl s' d' v ⟨ss, sz, 0, d.fails⟩ ∧ Cont (rall br s) W (rfp br bl s' v) w ∧ BssF w W.heap.size av acc (rfp br bl s' v)))) (fun _ kv _ => NL - (intOf kv).toNat)
 case atStart => exact ⟨0, [], [], .slice none 0 0, s, d, Nat.zero_le _, rfl, HROW0.out, .inl ⟨by omega, rfl, rfl, rfl, Nat.zero_le _, rfl, HJ.out⟩⟩
 case round =>
  clear HJ HROW0
  obtain ⟨k, ss, acc, v, s', d', hk, rfl, hrow, hab⟩ := hrel
  have HROW := Lib.hid hrow
  have HAB := Lib.hid hab
  clear hrow hab
  by_cases hlt : k < NL
  rotate_left
  ·have hk1 : ¬ (k : Int) < (NL : Int) := by omega
   by_cases hn0 : NL = 0
   ·subst hn0
    obtain ⟨-, rfl, rfl, hss, hacc, hrd, hj⟩ | ⟨h1, h2, -⟩ := HAB.out
    rotate_left
    ·omega
    obtain rfl : ss = [] := by
     refine List.length_eq_zero_iff.1 ?_
     omega
    obtain rfl : acc = [] := by
     refine List.length_eq_zero_iff.1 ?_
     omega
    have hns0 : ns = [] := List.length_eq_zero_iff.1 HNL.out.symm
    have hrd2 : wReadA d' [] [] (wnums d') = some ([], [], false) := by rw [← HWN.out, hns0]; rfl
    have HU := Lib.hid (wopen_new HON.out HZ1.out HZ2.out hrd2)
    obtain ⟨hk9, hb9⟩ := hj.done HW1.out HBL.out HD.out HX.out.size
    have HK := Lib.hid hk9
    have HB := Lib.hid hb9
    have HC := Lib.hid hj.cx
    clear hk9 hb9 hj hrd2 hss hacc hrd HAB hlt hns0
    have HNA := Lib.hid (refWName_any 1 wr)
    go_wp2_with fail
    refine HNA.out.mono ?_
    rintro e w6 ⟨rfl, hx6⟩
    replace HC := Lib.hid (HC.out.ext hx6)
    replace HK := Lib.hid (HK.out.ext hx6)
    replace HB := Lib.hid (HB.out.kb (Kb.of_ext hx6))
    clear hx6
    have HMK := Lib.hid (rmake_any HC.out.hd HOK.out (HSC.out.small (by have := HC0.out; omega)) HC.out.hx.size (wname 1) (Nat.le_trans (wname_len _) (by decide)))
    go_wp2_with fail
    refine HMK.out.mono ?_
    rintro e w7 ⟨s7, rfl, hs7⟩
    obtain ⟨hc7, hk7⟩ := HC.out.disk hs7
    replace HB := Lib.hid (HB.out.step hk7)
    replace HK := Lib.hid (HK.out.trans hk7)
    replace HC := Lib.hid hc7
    clear hs7 hc7 hk7 HMK HNA
    generalize dMake d' (wname 1) = x at *
    by_cases hx0 : x.2 = 0
    rotate_left
    ·have hx1 : ¬ (x.2 : Int) = 0 := by omega
     rw [if_pos hx0] at HU
     clear hx0
     go_wp2_with fail
     go_ret3
     exact ROpenQ.bad HU.out rfl (Cont.rks HC.out HK.out)
    rw [if_neg (by omega)] at HU
    rw [hx0]
    clear hx0
    have k0 := HC.out.hl.str.blk.cell (i := 2) rfl
    obtain ⟨g', cv', w8, hrun, hrow8, hkb8, hstr8, hg8⟩ := rseg_append0 HC.out.hl HC.out.hx.size (Nat.zero_le _) ⟨1, 0, 0⟩ 61
    have hsw := RlM.swap (l' := ⟨[⟨1, 0, 0⟩], sz, 0, d'.fails⟩) hstr8 HC.out.hl.zl hrow8 ⟨rfl, rfl, rfl⟩
    have k8 := hstr8.blk.cell (i := 2) rfl
    have t8 := hstr8.blk.thaw 2
    obtain ⟨hc9, hk9⟩ := HC.out.put hsw ((hkb8.mono fun b hb => .inr hb).trans (Kb.set (lall bl v) w8 bl 2 _ (.inl rfl)) (fun _ h => .inl h)) (by
     rintro j (hj | hj)
     ·exact .inl (.inl hj)
     ·obtain rfl : g' = j := by simpa [Value.ownBlock] using hj
      exact hg8.imp .inr id)
    have HRUN := Lib.hid hrun
    replace HB := Lib.hid (HB.out.step hk9)
    replace HK := Lib.hid (HK.out.trans hk9)
    replace HC := Lib.hid hc9
    have HSNE := Lib.hid (show ([⟨1, 0, 0⟩] : List WSeg) ≠ [] by simp)
    have HNX := Lib.hid (show (⟨[⟨1, 0, 0⟩], sz, 0, d'.fails⟩ : Lg).next ≤ 9000000000000000000 by show 1 + 0 ≤ _; decide)
    have HN1 := Lib.hid (show 1 ≤ (⟨[⟨1, 0, 0⟩], sz, 0, d'.fails⟩ : Lg).next by show 1 ≤ 1 + 0; decide)
    clear hrow8 hkb8 hstr8 hg8 hsw hc9 hk9 hrun
    have HKN := Lib.hid (rlNext_any HC.out.hl HSNE.out HNX.out)
    obtain ⟨q, hq⟩ : ∃ q, q = (⟨[⟨1, 0, 0⟩], sz, 0, d'.fails⟩ : Lg).next := ⟨_, rfl⟩
    rw [← hq] at HKN HNX HN1
    have HQD := Lib.hid hq
    clear hq
    go_wp2_with (first
     | (at_builtin; refine wpList_append_run rfl (.tmp 152) (.tmp 154) 61 rfl rfl rfl HRUN.out ?_)
     | fail)
    clear k0 k8 t8
    refine HKN.out.mono ?_
    rintro e w9 ⟨rfl, hx9⟩

    replace HC := Lib.hid (HC.out.ext hx9)
    replace HK := Lib.hid (HK.out.ext hx9)
    replace HB := Lib.hid (HB.out.kb (Kb.of_ext hx9))
    clear hx9

    have hw : IntKind.i64.wrap ((q : Int) - 1) = ((q - 1 : Nat) : Int) := by rw [IntWalk.i64_in _ (by have := HNX.out; have := HN1.out; omega)]; have := HN1.out; omega
    have k3 := HC.out.hl.str.blk.cell (i := 3) rfl
    have t3 := HC.out.hl.str.blk.thaw 3
    obtain ⟨hc10, hk10⟩ := HC.out.sure (q - 1)
    have HC10 := Lib.hid hc10
    have HK10 := Lib.hid (HK.out.trans hk10)
    have HB10 := Lib.hid (HB.out.step hk10)
    clear hc10 hk10
    obtain ⟨q1, hq1⟩ : ∃ q1, q1 = q - 1 := ⟨_, rfl⟩
    rw [← hq1] at HC10 HK10 HB10 hw
    have HQ1 := Lib.hid hq1
    clear hq1
    go_wp2_with fail
    go_ret3
    refine ROpenQ.good (HU.out.trans ?_) rfl HC10.out HK10.out HB10.out
    unfold wOpened
    rw [HQ1.out, HQD.out]
   ·obtain ⟨h1, -⟩ | ⟨hkn, hk0, torn, hrd, hne, hme, hc, hkc, hb⟩ := HAB.out
    ·omega
    have hn2 : ¬ (NL : Int) = 0 := by omega
    have HU := Lib.hid (show wOpen d (sz : Int) = wOpened d' ss acc sz d.fails by
     have h := wopen_good HON.out HZ1.out HZ2.out (by rw [← HWN.out]; exact hrd) hne (by rw [hme])
     rw [hme] at h
     exact h)
    have HC := Lib.hid hc
    have HK := Lib.hid hkc
    have HB := Lib.hid hb
    have hwl := wread_last HOK.out (by rw [← HWN.out]; exact hrd) hne
    have HNX := Lib.hid (show (⟨ss, sz, 0, d.fails⟩ : Lg).next ≤ 9000000000000000000 by unfold Lg.next Lg.last; dsimp only; omega)
    have HN1 := Lib.hid (show 1 ≤ (⟨ss, sz, 0, d.fails⟩ : Lg).next by unfold Lg.next Lg.last; dsimp only; omega)
    have HKN := Lib.hid (rlNext_any HC.out.hl hne HNX.out)
    obtain ⟨q, hq⟩ : ∃ q, q = (⟨ss, sz, 0, d.fails⟩ : Lg).next := ⟨_, rfl⟩
    rw [← hq] at HKN HNX HN1
    have HQD := Lib.hid hq
    clear hq hwl hrd hne hme hc hkc hb HAB hkn hk0 hlt hn0
    go_wp2_with fail
    refine HKN.out.mono ?_
    rintro e w9 ⟨rfl, hx9⟩

    replace HC := Lib.hid (HC.out.ext hx9)
    replace HK := Lib.hid (HK.out.ext hx9)
    replace HB := Lib.hid (HB.out.kb (Kb.of_ext hx9))
    clear hx9

    have hw : IntKind.i64.wrap ((q : Int) - 1) = ((q - 1 : Nat) : Int) := by rw [IntWalk.i64_in _ (by have := HNX.out; have := HN1.out; omega)]; have := HN1.out; omega
    have k3 := HC.out.hl.str.blk.cell (i := 3) rfl
    have t3 := HC.out.hl.str.blk.thaw 3
    obtain ⟨hc10, hk10⟩ := HC.out.sure (q - 1)
    have HC10 := Lib.hid hc10
    have HK10 := Lib.hid (HK.out.trans hk10)
    have HB10 := Lib.hid (HB.out.step hk10)
    clear hc10 hk10
    obtain ⟨q1, hq1⟩ : ∃ q1, q1 = q - 1 := ⟨_, rfl⟩
    rw [← hq1] at HC10 HK10 HB10 hw
    have HQ1 := Lib.hid hq1
    clear hq1
    go_wp2_with fail
    go_ret3
    refine ROpenQ.good (HU.out.trans ?_) rfl HC10.out HK10.out HB10.out
    unfold wOpened
    rw [HQ1.out, HQD.out]
  obtain ⟨-, rfl, rfl, hss, hacc, hrd, hj⟩ | ⟨hkn, -⟩ := HAB.out
  rotate_left
  ·omega
  have HJ2 := Lib.hid hj
  have HRD := Lib.hid hrd
  have HSS := Lib.hid hss
  have HACC := Lib.hid hacc
  clear hj hrd hss hacc HAB
  obtain ⟨n, hn⟩ : ∃ n, ns[k]? = some n := ⟨_, List.getElem?_eq_getElem (by rw [← HNL.out]; exact hlt)⟩
  obtain ⟨g, rfl⟩ : ∃ g, A5 = some ⟨g, 0, none⟩ := by
   rcases (ow_of_row HROW.out).form with ⟨hq, -⟩ | ⟨g, cap, hq, -⟩
   ·injection hq with _ hq _
    have := HNL.out
    omega
   ·injection hq with hq _ _
    exact ⟨g, hq⟩
  have HR2 := HROW
  have kc := ints_cell HROW.out HNL.out hn
  have hn9 : n ≤ 999999999999 := HNB.out n (List.mem_of_getElem? hn)
  have hk1 : (k : Int) < (NL : Int) := by omega
  have HN9 := Lib.hid hn9
  have HNK := Lib.hid hn
  clear hn hn9
  have HNA := Lib.hid (refWName_any (n : Int) wr)
  go_wp2_with fail
  refine HNA.out.mono ?_
  rintro e w2 ⟨rfl, hx2⟩
  replace HJ2 := Lib.hid (HJ2.out.ext hx2)
  replace HR2 := Lib.hid (row_keptT HR2.out (Kb.of_ext (fp := fun _ => False) hx2) (fun _ _ _ _ h => h.elim))
  clear hx2 HNA kc
  have HRE := Lib.hid (rread_any HJ2.out.cx.hd HOK.out (wname (n : Int)))
  go_wp2_with fail
  refine HRE.out.mono ?_
  rintro e w3 ⟨vb, rfl, hob, hx3⟩
  have hvb : OwB w3 W1.heap.size vb (dRead d' (wname (n : Int))).1 := OwB.mono hob HJ2.out.kb.size
  replace HJ2 := Lib.hid (HJ2.out.ext hx3)
  replace HR2 := Lib.hid (row_keptT HR2.out (Kb.of_ext (fp := fun _ => False) hx3) (fun _ _ _ _ h => h.elim))
  clear hx3 HRE hob
  have hszw := HJ2.out.kb.size
  obtain ⟨hr1, hr2, hr3⟩ := wrows_len HOK.out n
  have HFR := Lib.hid (rRowsO_any vb _ w3 hvb.bs (by omega))
  obtain ⟨Ab, cb, rfl, -⟩ := hvb.bs.open_
  obtain ⟨rw_, hrw⟩ : ∃ r, r = wrows d' n := ⟨_, rfl⟩
  have HRW := Lib.hid hrw
  rw [show frows (dRead d' (wname (n : Int))).1 = rw_ from hrw.symm] at HFR
  rw [← hrw] at hr1 hr2
  obtain ⟨lb, hlb⟩ : ∃ n', n' = (dRead d' (wname (n : Int))).1.length := ⟨_, rfl⟩
  rw [← hlb] at hr3 HFR
  rw [← hlb]
  have HLB := Lib.hid hlb
  obtain ⟨rows, kb, eb⟩ := rw_
  dsimp only at hr1 hr2 HFR
  clear hrw hlb hvb
  go_wp2_with fail
  refine HFR.out.mono ?_
  rintro e w4 ⟨vr, rfl, hbr, hx4⟩
  replace HJ2 := Lib.hid (HJ2.out.ext hx4)
  replace HR2 := Lib.hid (row_keptT HR2.out (Kb.of_ext (fp := fun _ => False) hx4) (fun _ _ _ _ h => h.elim))
  have hbr2 := hbr.mono hszw
  obtain ⟨Ar, cr, rfl⟩ := hbr2.form
  have HBR := Lib.hid hbr2
  have HRL := Lib.hid hr1
  clear hbr hbr2 hx4 HFR hr1 hr2 hr3 hszw
  have HWL := Lib.hid (show IntKind.i64.wrap ((NL : Int) - 1) = (NL : Int) - 1 by rw [IntWalk.i64_in _ (by omega)])
  by_cases hlast : k + 1 = NL
  ·have hq : wReadA d' [] [] ns = some (ss ++ [⟨n, rows.length, kb⟩], acc ++ rows, decide (kb < lb)) := by
    rw [HRD.out, List.drop_eq_getElem_cons (show k < ns.length by rw [← HNL.out]; omega), List.drop_eq_nil_of_le (by rw [← HNL.out]; omega)]
    have hn := HNK.out
    rw [List.getElem?_eq_getElem (by rw [← HNL.out]; omega)] at hn
    injection hn with hn
    rw [hn, HLB.out]
    unfold wReadA wseg
    rw [← HRW.out]
   have HQ := Lib.hid hq
   have hwl : IntKind.i64.wrap ((NL : Int) - 1) = (k : Int) := by rw [HWL.out]; omega
   have HKL := Lib.hid hlast
   clear hq hlast
   go_wp2_with fail
   clear hwl
   refine wp_region_mono (by kernel_rfl) (by kernel_rfl) ?_
   refine tele_move rfl (.inl rfl) rfl (isV (.bool true)) (fun ρ w' h => h) ?_
   refine tele_val rfl (.bool false) (fun _ _ _ => rfl) ?_ ?_
   ·rintro ρ w' he ⟨h69, -⟩
    have e69 : ρ 69 = (.bool true) := h69
    simp [execOp, evR, e69, go_sem]
   refine tele_move rfl (.inl rfl) rfl (isV (.bool false)) (fun ρ w' h => h) ?_
   refine tele_pass rfl (fun ρ w' hk => by obtain ⟨_, hg, -⟩ := hk; have eg : ρ 71 = (.bool false) := hg; simp [wantedR, Region.wanted, asBoolR, eg]) ?_
   refine tele_pass rfl (fun ρ w' hk => by obtain ⟨_, hg, -⟩ := hk; have eg : ρ 71 = (.bool false) := hg; simp [wantedR, Region.wanted, asBoolR, eg]) ?_
   refine tele_pass rfl (fun ρ w' hk => by obtain ⟨_, hg, -⟩ := hk; have eg : ρ 71 = (.bool false) := hg; simp [wantedR, Region.wanted, asBoolR, eg]) ?_
   refine tele_pass rfl (fun ρ w' hk => by obtain ⟨_, hg, -⟩ := hk; have eg : ρ 74 = undef := hg; simp [wantedR, Region.wanted, asBoolR, eg, undef]) ?_
   refine tele_pass rfl (fun ρ w' hk => by obtain ⟨_, hg, -⟩ := hk; have eg : ρ 74 = undef := hg; simp [wantedR, Region.wanted, asBoolR, eg, undef]) ?_
   refine tele_pass rfl (fun ρ w' hk => by obtain ⟨_, hg, -⟩ := hk; have eg : ρ 74 = undef := hg; simp [wantedR, Region.wanted, asBoolR, eg, undef]) ?_
   refine tele_pass rfl (fun ρ w' hk => by obtain ⟨_, _, hg, -⟩ := hk; have eg : ρ 74 = undef := hg; simp [wantedR, Region.wanted, asBoolR, eg, undef]) ?_
   refine tele_pass rfl (fun ρ w' hk => by obtain ⟨_, hg, -⟩ := hk; have eg : ρ 74 = undef := hg; simp [wantedR, Region.wanted, asBoolR, eg, undef]) ?_
   refine tele_pass rfl (fun ρ w' hk => by obtain ⟨_, hg, -⟩ := hk; have eg : ρ 74 = undef := hg; simp [wantedR, Region.wanted, asBoolR, eg, undef]) ?_
   refine tele_pass rfl (fun ρ w' hk => by obtain ⟨_, hg, -⟩ := hk; have eg : ρ 74 = undef := hg; simp [wantedR, Region.wanted, asBoolR, eg, undef]) ?_
   refine tele_pass rfl (fun ρ w' hk => by obtain ⟨_, _, hg, -⟩ := hk; have eg : ρ 74 = undef := hg; simp [wantedR, Region.wanted, asBoolR, eg, undef]) ?_
   refine tele_pass rfl (fun ρ w' hk => by obtain ⟨_, hg, -⟩ := hk; have eg : ρ 74 = undef := hg; simp [wantedR, Region.wanted, asBoolR, eg, undef]) ?_
   refine tele_pass rfl (fun ρ w' hk => by obtain ⟨_, hg, -⟩ := hk; have eg : ρ 74 = undef := hg; simp [wantedR, Region.wanted, asBoolR, eg, undef]) ?_
   refine tele_pass rfl (fun ρ w' hk => by obtain ⟨_, hg, -⟩ := hk; have eg : ρ 74 = undef := hg; simp [wantedR, Region.wanted, asBoolR, eg, undef]) ?_
   refine tele_pass rfl (fun ρ w' hk => by obtain ⟨_, _, hg, -⟩ := hk; have eg : ρ 74 = undef := hg; simp [wantedR, Region.wanted, asBoolR, eg, undef]) ?_
   refine tele_pass rfl (fun ρ w' hk => by obtain ⟨_, _, hg, -⟩ := hk; have eg : ρ 74 = undef := hg; simp [wantedR, Region.wanted, asBoolR, eg, undef]) ?_
   refine tele_pass rfl (fun ρ w' hk => by obtain ⟨_, _, hg, -⟩ := hk; have eg : ρ 71 = (.bool false) := hg; simp [wantedR, Region.wanted, asBoolR, eg]) ?_
   refine tele_val rfl (.bool false) (fun _ _ _ => rfl) ?_ ?_
   ·rintro ρ w' he ⟨h71, h88, -⟩
    have e71 : ρ 71 = (.bool false) := h71
    have e88 : ρ 88 = undef := h88
    simp [execOp, evR, e71, e88, go_sem]
   refine tele_nil ?_
   rintro ρ wb hext ⟨f89, f88, f87, f86, f85, f84, f83, f82, f81, f80, f79, f78, f77, f76, f75, f74, f73, f72, f71, f70, f69, -⟩
   replace f89 : ρ 89 = (.bool false) := f89
   simp only [puts, Act.put, List.setIfInBounds_toArray, List.set_cons_zero, List.set_cons_succ]
   rw [f89]
   clear f69 f70 f71 f72 f73 f74 f75 f76 f77 f78 f79 f80 f81 f82 f83 f84 f85 f86 f87 f88 f89
   replace HJ2 := Lib.hid (HJ2.out.ext hext)
   replace HR2 := Lib.hid (row_keptT HR2.out (Kb.of_ext (fp := fun _ => False) hext) (fun _ _ _ _ h => h.elim))
   replace HBR := Lib.hid (HBR.out.ext hext)
   clear hext
   have HLT2 := Lib.hid hlt
   go_wp2_with fail
   refine wp_region_turns 3 [(0, 2, false), (0, 2, false), (0, 2, false), (0, 2, false), (0, 1, false), (0, 2, false), (0, 2, false), (0, 2, false), (0, 2, false), (0, 2, false), (0, 2, false), (0, 2, false), (0, 0, false), (0, 0, true), (1, 1, true), (2, 3, false), (2, 2, false), (2, 2, true)] (fun w0 c => match c with | 0 => w0 | 1 => w0.alloc (.cells #[.int .i64 (n : Int), .int .i64 (rows.length : Int), .int .i64 (kb : Int)] 96) | 2 => resW ((Builtin.append_ #[61, 61] 61 #[v, .slice (some ⟨w0.heap.size, 0, none⟩) 1 1]).run Tryz.prog (w0.alloc (.cells #[.int .i64 (n : Int), .int .i64 (rows.length : Int), .int .i64 (kb : Int)] 96))) w0 | _ => (resW ((Builtin.append_ #[61, 61] 61 #[v, .slice (some ⟨w0.heap.size, 0, none⟩) 1 1]).run Tryz.prog (w0.alloc (.cells #[.int .i64 (n : Int), .int .i64 (rows.length : Int), .int .i64 (kb : Int)] 96))) w0).setCell ⟨bl, 2, none⟩ (resV ((Builtin.append_ #[61, 61] 61 #[v, .slice (some ⟨w0.heap.size, 0, none⟩) 1 1]).run Tryz.prog (w0.alloc (.cells #[.int .i64 (n : Int), .int .i64 (rows.length : Int), .int .i64 (kb : Int)] 96))))) (by kernel_rfl) (by kernel_rfl) (by kernel_rfl) (fun _ => rfl) ?_
   intro w0 ws hext hsz hws
   have q0 : ws 0 = w0 := hws 0
   have q1 : ws 1 = w0.alloc (.cells #[.int .i64 (n : Int), .int .i64 (rows.length : Int), .int .i64 (kb : Int)] 96) := hws 1
   have q2 : ws 2 = resW ((Builtin.append_ #[61, 61] 61 #[v, .slice (some ⟨w0.heap.size, 0, none⟩) 1 1]).run Tryz.prog (w0.alloc (.cells #[.int .i64 (n : Int), .int .i64 (rows.length : Int), .int .i64 (kb : Int)] 96))) w0 := hws 2
   have q3 : ws 3 = (resW ((Builtin.append_ #[61, 61] 61 #[v, .slice (some ⟨w0.heap.size, 0, none⟩) 1 1]).run Tryz.prog (w0.alloc (.cells #[.int .i64 (n : Int), .int .i64 (rows.length : Int), .int .i64 (kb : Int)] 96))) w0).setCell ⟨bl, 2, none⟩ (resV ((Builtin.append_ #[61, 61] 61 #[v, .slice (some ⟨w0.heap.size, 0, none⟩) 1 1]).run Tryz.prog (w0.alloc (.cells #[.int .i64 (n : Int), .int .i64 (rows.length : Int), .int .i64 (kb : Int)] 96)))) := hws 3
   clear hws
   have hj0 := HJ2.out.ext hext
   have hr0 := row_keptT HR2.out (Kb.of_ext (fp := fun _ => False) hext) (fun _ _ _ _ h => h.elim)
   have hb0 := HBR.out.ext hext
   obtain ⟨g', cv', w5, hrun, hk0, ht0, hkb5, hkb6, hj6⟩ := hj0.seg (by rw [HSS.out]; omega) ⟨n, rows.length, kb⟩ 61
   dsimp only at hrun
   rw [hrun] at q2 q3
   simp only [resW, resV] at q2 q3
   have hty : ∀ j (C : Array Value) (T : TypeId) fz, lall bl v j → w0.heap[j]? = some (.cells C T fz) → T = 63 ∨ T = 96 := hj0.cx.hl.ltype
   have kcw0 := ints_cell hr0 HNL.out HNK.out
   have kcw1 := ints_cell (row_keptT hr0 (Kb.of_ext (fp := fun _ => False) (ext_alloc w0 (.cells #[.int .i64 (n : Int), .int .i64 (rows.length : Int), .int .i64 (kb : Int)] 96))) (fun _ _ _ _ h => h.elim)) HNL.out HNK.out
   have kcw2 := ints_cell (row_keptT hr0 hkb5 (fun j C T fz hq hb => by rcases hty j C T fz hq hb with rfl | rfl <;> decide)) HNL.out HNK.out
   have hr6 := row_keptT hr0 hkb6 (fun j C T fz hq hb => by rcases hty j C T fz hq hb with rfl | rfl <;> decide)
   have kcw3 := ints_cell hr6 HNL.out HNK.out
   have brw0 := hj0.cx.hl.str.blk
   have brw1 := brw0.ext (ext_alloc w0 (.cells #[.int .i64 (n : Int), .int .i64 (rows.length : Int), .int .i64 (kb : Int)] 96))
   simp only [rlstr] at brw0 brw1
   refine detT_pure rfl (.pointer (some ⟨bl, 0, none⟩)) (fun _ _ => rfl) ?_ ?_
   ·rintro ρ ⟨h7, -⟩ w'
    have e7 : ρ 7 = .pointer (some ⟨bl, 0, none⟩) := h7
    simp [execOp, evR, e7, go_sem]
   refine detT_pure rfl (.pointer (some ⟨bl, 0, none⟩)) (fun _ _ => rfl) ?_ ?_
   ·rintro ρ ⟨h7, -⟩ w'
    have e7 : ρ 7 = .pointer (some ⟨bl, 0, none⟩) := h7
    simp [execOp, evR, e7, go_sem]
   refine detT_pure rfl (.pointer (some ⟨bl, 0, none⟩)) (fun _ _ => rfl) ?_ ?_
   ·rintro ρ ⟨h91, -⟩ w'
    have e91 : ρ 91 = .pointer (some ⟨bl, 0, none⟩) := h91
    simp [execOp, evR, e91, go_sem]
   refine detT_pure rfl (.pointer (some ⟨bl, 2, none⟩)) (fun _ _ => rfl) ?_ ?_
   ·rintro ρ ⟨h92, -⟩ w'
    have e92 : ρ 92 = .pointer (some ⟨bl, 0, none⟩) := h92
    simp [execOp, evR, e92, go_sem]
   refine detT_read rfl (v) (fun _ _ => rfl) ?_ ?_
   ·rintro ρ ⟨h93, -⟩ c hc1 hc2
    have e93 : ρ 93 = .pointer (some ⟨bl, 2, none⟩) := h93
    have hc : c = 0 ∨ c = 1 := by have h1 : 0 ≤ c := hc1; have h2 : c ≤ 1 := hc2; omega
    rcases hc with rfl | rfl
    ·rw [q0]
     have c := brw0.cell (i := 2) rfl
     simp [execOp, evR, e93, c, go_sem]
    ·rw [q1]
     have c := brw1.cell (i := 2) rfl
     simp [execOp, evR, e93, c, go_sem]
   refine detT_pure rfl (.slice (some ⟨g, 0, none⟩) NL c5) (fun _ _ => rfl) ?_ ?_
   ·rintro ρ ⟨h9, -⟩ w'
    have e9 : ρ 9 = .slice (some ⟨g, 0, none⟩) NL c5 := h9
    simp [execOp, evR, e9, go_sem]
   refine detT_pure rfl (.int .i64 (k : Int)) (fun _ _ => rfl) ?_ ?_
   ·rintro ρ ⟨h10, -⟩ w'
    have e10 : ρ 10 = .int .i64 (k : Int) := h10
    simp [execOp, evR, e10, go_sem]
   refine detT_pure rfl (.pointer (some ⟨g, k, none⟩)) (fun _ _ => rfl) ?_ ?_
   ·rintro ρ ⟨h95, h96, -⟩ w'
    have e95 : ρ 95 = .slice (some ⟨g, 0, none⟩) NL c5 := h95
    have e96 : ρ 96 = .int .i64 (k : Int) := h96
    exact index_rint rfl e95 e96 HLT2.out
   refine detT_read rfl (.int .i64 (n : Int)) (fun _ _ => rfl) ?_ ?_
   ·rintro ρ ⟨h97, -⟩ c hc1 hc2
    have e97 : ρ 97 = .pointer (some ⟨g, k, none⟩) := h97
    have hc : c = 0 ∨ c = 1 ∨ c = 2 := by have h1 : 0 ≤ c := hc1; have h2 : c ≤ 2 := hc2; omega
    rcases hc with rfl | rfl | rfl
    ·rw [q0]
     simp [execOp, evR, e97, kcw0, go_sem]
    ·rw [q1]
     simp [execOp, evR, e97, kcw1, go_sem]
    ·rw [q2]
     simp [execOp, evR, e97, kcw2, go_sem]
   refine detT_pure rfl (.slice Ar rows.length cr) (fun _ _ => rfl) ?_ ?_
   ·rintro ρ ⟨h13, -⟩ w'
    have e13 : ρ 13 = .slice Ar rows.length cr := h13
    simp [execOp, evR, e13, go_sem]
   refine detT_pure rfl (.int .i64 (rows.length : Int)) (fun _ _ => rfl) ?_ ?_
   ·rintro ρ ⟨h99, -⟩ w'
    have e99 : ρ 99 = .slice Ar rows.length cr := h99
    simp [execOp, evR, e99, go_sem]
   refine detT_pure rfl (.int .i64 (kb : Int)) (fun _ _ => rfl) ?_ ?_
   ·rintro ρ ⟨h14, -⟩ w'
    have e14 : ρ 14 = .int .i64 (kb : Int) := h14
    simp [execOp, evR, e14, go_sem]
   refine detT_pure rfl (.agg #[.int .i64 (n : Int), .int .i64 (rows.length : Int), .int .i64 (kb : Int)]) (fun _ _ => rfl) ?_ ?_
   ·rintro ρ ⟨h98, h100, h101, -⟩ w'
    have e98 : ρ 98 = .int .i64 (n : Int) := h98
    have e100 : ρ 100 = .int .i64 (rows.length : Int) := h100
    have e101 : ρ 101 = .int .i64 (kb : Int) := h101
    simp [execOp, evR, e98, e100, e101, go_sem]
   refine detT_turn rfl (.slice (some ⟨w0.heap.size, 0, none⟩) 1 1) (fun _ _ => rfl) ?_ ?_
   ·rintro ρ ⟨h102, -⟩
    have e102 : ρ 102 = .agg #[.int .i64 (n : Int), .int .i64 (rows.length : Int), .int .i64 (kb : Int)] := h102
    show (execOp (evR ρ) _).run Tryz.prog (ws 0) = .ok (.value _) (ws 1)
    rw [q0, q1]
    simp [execOp, evR, e102, go_sem]
   refine detT_turn rfl (.slice (some ⟨g', 0, none⟩) (ss.length + 1) cv') (fun _ _ => rfl) ?_ ?_
   ·rintro ρ ⟨h94, h103, -⟩
    have e94 : ρ 94 = v := h94
    have e103 : ρ 103 = .slice (some ⟨w0.heap.size, 0, none⟩) 1 1 := h103
    show (execOp (evR ρ) _).run Tryz.prog (ws 1) = .ok (.value _) (ws 2)
    rw [q1, q2]
    simp only [execOp, resolve, invoke, builtin, evR, List.map_toArray, List.map_cons, List.map_nil, e94, e103, Sem.run_bind, Sem.run_pure, Result.andThen_ok, hrun]
   refine detT_pure rfl (.pointer (some ⟨bl, 0, none⟩)) (fun _ _ => rfl) ?_ ?_
   ·rintro ρ ⟨h90, -⟩ w'
    have e90 : ρ 90 = .pointer (some ⟨bl, 0, none⟩) := h90
    simp [execOp, evR, e90, go_sem]
   refine detT_pure rfl (.pointer (some ⟨bl, 2, none⟩)) (fun _ _ => rfl) ?_ ?_
   ·rintro ρ ⟨h105, -⟩ w'
    have e105 : ρ 105 = .pointer (some ⟨bl, 0, none⟩) := h105
    simp [execOp, evR, e105, go_sem]
   refine detT_store rfl (fun _ _ => rfl) ?_ ?_
   ·rintro ρ ⟨h106, h104, -⟩
    have e106 : ρ 106 = .pointer (some ⟨bl, 2, none⟩) := h106
    have e104 : ρ 104 = .slice (some ⟨g', 0, none⟩) (ss.length + 1) cv' := h104
    show (execOp (evR ρ) _).run Tryz.prog (ws 2) = .ok .skip (ws 3)
    rw [q2, q3]
    simp [execOp, evR, e106, e104, hk0, ht0, go_sem]
   simp only [DetT, applyV, Act.put, List.setIfInBounds_toArray, List.set_cons_zero, List.set_cons_succ]
   rw [q3]
   have hb6 := hb0.kb hkb6 (fun j C T fz hq hb => by rcases hty j C T fz hq hb with rfl | rfl <;> exact ⟨by decide, by decide⟩)
   have HR6 := Lib.hid hr6
   have HJ6 := Lib.hid hj6
   have HB6 := Lib.hid hb6
   clear hj0 hr0 hb0 hk0 ht0 hkb5 hkb6 hj6 hty kcw0 kcw1 kcw2 kcw3 hr6 brw0 brw1 hb6 q0 q1 q2 q3 hrun hext hsz HJ2 HR2 HBR
   obtain ⟨A6, n6, c6, w6, hrun6, hkb7, hty7, hj7⟩ := HJ6.out.app (by rw [HW1.out, World.size_alloc]; have := HX.out.size; omega) HBL1.out HB6.out (by have := HACC.out; have := HRL.out; omega) 47
   have hr7 := row_keptT HR6.out hkb7 (fun j C T fz hq hb => by rw [hty7 j C T fz hq hb]; decide)
   have HR7 := Lib.hid hr7
   have HJ7 := Lib.hid hj7
   have HRUN6 := Lib.hid hrun6
   clear hkb7 hty7 hj7 hr7 hrun6 HJ6 HR6 HB6
   have hne : ss ++ [⟨n, rows.length, kb⟩] ≠ [] := by simp
   have hgl : (ss ++ [(⟨n, rows.length, kb⟩ : WSeg)]).getLastD ⟨1, 0, 0⟩ = ⟨n, rows.length, kb⟩ := List.getLastD_concat
   obtain ⟨SS, hSS⟩ : ∃ SS, SS = ss ++ [⟨n, rows.length, kb⟩] := ⟨_, rfl⟩
   rw [← hSS] at HQ HJ7 hne hgl
   obtain ⟨hk9, hb9⟩ := HJ7.out.done HW1.out HBL.out HD.out HX.out.size
   have HK := Lib.hid hk9
   have HB := Lib.hid hb9
   have HC := Lib.hid HJ7.out.cx
   have HRN := Lib.hid (show wReadA d' [] [] (wnums d') = some (SS, acc ++ rows, decide (kb < lb)) by rw [← HWN.out]; exact HQ.out)
   have HNE := Lib.hid hne
   have HGL := Lib.hid hgl
   have kc := ints_cell HR7.out HNL.out HNK.out
   clear hk9 hb9 hne hgl hSS
   by_cases ht : kb < lb
   ·have htt : decide (kb < lb) = true := decide_eq_true ht
    rw [htt] at HQ HRN
    have HUB := Lib.hid (fun he => wopen_bad HON.out HZ1.out HZ2.out HRN.out HNE.out he)
    have HUG := Lib.hid (show wMend d' (SS.getLastD ⟨1, 0, 0⟩) true = if (dCut d' (wname (n : Int)) (kb : Int)).2 ≠ 0 then dCut d' (wname (n : Int)) (kb : Int) else dSync (dCut d' (wname (n : Int)) (kb : Int)).1 (wname (n : Int)) by rw [HGL.out]; rfl)
    clear htt
    have HNA := Lib.hid (refWName_any (n : Int) w6)
    go_wp2_with (first
     | (at_builtin; refine wpList_append_run rfl (.tmp 107) (.tmp 108) 47 rfl rfl rfl HRUN6.out ?_)
     | fail)
    refine HNA.out.mono ?_
    rintro e w8 ⟨rfl, hx8⟩
    replace HC := Lib.hid (HC.out.ext hx8)
    replace HK := Lib.hid (HK.out.ext hx8)
    replace HB := Lib.hid (HB.out.kb (Kb.of_ext hx8))
    replace HR7 := Lib.hid (row_keptT HR7.out (Kb.of_ext (fp := fun _ => False) hx8) (fun _ _ _ _ h => h.elim))
    clear hx8 kc
    clear HNA
    have HOKC := Lib.hid (dCut_ok HOK.out (wname (n : Int)) (kb : Int))
    have HSCC := Lib.hid (HSC.out.grow (dCut_grow d' (wname (n : Int)) (kb : Int)))
    have HCL := Lib.hid (rcut_any HC.out.hd HOK.out (HSC.out.small (by have := HC0.out; omega)) HC.out.hx.size (wname (n : Int)) (kb : Int))
    go_wp2_with fail
    refine HCL.out.mono ?_
    rintro e w8 ⟨S8, rfl, hs8⟩
    obtain ⟨hc8, hk8⟩ := HC.out.disk hs8
    replace HR7 := Lib.hid (row_keptT HR7.out hs8.kb (fun j C T fz hq hb => by rcases HC.out.hd.types j hq _ _ _ hb with rfl | rfl | rfl <;> decide))
    replace HB := Lib.hid (HB.out.step hk8)
    replace HK := Lib.hid (HK.out.trans hk8)
    replace HC := Lib.hid hc8
    clear hs8 hc8 hk8
    clear HCL
    generalize dCut d' (wname (n : Int)) (kb : Int) = y at *
    by_cases hy0 : y.2 = 0
    rotate_left
    ·have hy1 : ¬ (y.2 : Int) = 0 := by omega
     rw [if_pos hy0] at HUG
     have HU := Lib.hid (HUB.out (by rw [HUG.out]; exact hy0))
     rw [HUG.out] at HU
     clear hy0
     go_wp2_with fail
     go_ret3
     exact ROpenQ.bad HU.out rfl (Cont.rks HC.out HK.out)
    rw [if_neg (by omega)] at HUG
    rw [HUG.out] at HUB
    rw [hy0]
    clear hy0
    have kc := ints_cell HR7.out HNL.out HNK.out
    have HNA := Lib.hid (refWName_any (n : Int) w8)
    go_wp2_with fail
    refine HNA.out.mono ?_
    rintro e w9 ⟨rfl, hx9⟩
    replace HC := Lib.hid (HC.out.ext hx9)
    replace HK := Lib.hid (HK.out.ext hx9)
    replace HB := Lib.hid (HB.out.kb (Kb.of_ext hx9))
    replace HR7 := Lib.hid (row_keptT HR7.out (Kb.of_ext (fp := fun _ => False) hx9) (fun _ _ _ _ h => h.elim))
    clear hx9 kc
    clear HNA
    have HCL := Lib.hid (rsync_any HC.out.hd HOKC.out (HSCC.out.small (by have := HC0.out; omega)) HC.out.hx.size (wname (n : Int)))
    go_wp2_with fail
    refine HCL.out.mono ?_
    rintro e w10 ⟨S10, rfl, hs8⟩
    obtain ⟨hc8, hk8⟩ := HC.out.disk hs8
    replace HR7 := Lib.hid (row_keptT HR7.out hs8.kb (fun j C T fz hq hb => by rcases HC.out.hd.types j hq _ _ _ hb with rfl | rfl | rfl <;> decide))
    replace HB := Lib.hid (HB.out.step hk8)
    replace HK := Lib.hid (HK.out.trans hk8)
    replace HC := Lib.hid hc8
    clear hs8 hc8 hk8
    clear HCL
    replace HUG := Lib.hid (show (dSync y.1 (wname (n : Int))).2 = 0 → wMend d' (SS.getLastD ⟨1, 0, 0⟩) true = ((dSync y.1 (wname (n : Int))).1, 0) from fun h => by rw [HUG.out]; exact Prod.ext rfl h)
    generalize dSync y.1 (wname (n : Int)) = x at *
    by_cases hx0 : x.2 = 0
    rotate_left
    ·have hx1 : ¬ (x.2 : Int) = 0 := by omega
     have HU := Lib.hid (HUB.out hx0)
     clear hx0
     go_wp2_with fail
     go_ret3
     exact ROpenQ.bad HU.out rfl (Cont.rks HC.out HK.out)
    have HU := Lib.hid (HUG.out hx0)
    have hkn : IntKind.i64.wrap ((k : Int) + 1) = (NL : Int) := by rw [IntWalk.i64_in _ (by omega)]; have := HKL.out; omega
    rw [hx0]
    clear hx0
    go_wp2_with fail
    go_roundw
    case rel => exact ⟨NL, SS, acc ++ rows, _, _, x.1, Nat.le_refl _, rfl, HR7.out, .inr ⟨rfl, by omega, true, HQ.out, HNE.out, HU.out, HC.out, HK.out, HB.out⟩⟩
    case measure => simp [intOf]; omega
   ·have htt : decide (kb < lb) = false := decide_eq_false ht
    rw [htt] at HQ HRN
    have HUB := Lib.hid (fun he => wopen_bad HON.out HZ1.out HZ2.out HRN.out HNE.out he)
    have HUG := Lib.hid (show wMend d' (SS.getLastD ⟨1, 0, 0⟩) false = dSync d' (wname (n : Int)) by rw [HGL.out]; rfl)
    rw [HUG.out] at HUB
    clear htt
    have HNA := Lib.hid (refWName_any (n : Int) w6)
    go_wp2_with (first
     | (at_builtin; refine wpList_append_run rfl (.tmp 107) (.tmp 108) 47 rfl rfl rfl HRUN6.out ?_)
     | fail)
    refine HNA.out.mono ?_
    rintro e w8 ⟨rfl, hx8⟩
    replace HC := Lib.hid (HC.out.ext hx8)
    replace HK := Lib.hid (HK.out.ext hx8)
    replace HB := Lib.hid (HB.out.kb (Kb.of_ext hx8))
    replace HR7 := Lib.hid (row_keptT HR7.out (Kb.of_ext (fp := fun _ => False) hx8) (fun _ _ _ _ h => h.elim))
    clear hx8 kc
    clear HNA
    have HCL := Lib.hid (rsync_any HC.out.hd HOK.out (HSC.out.small (by have := HC0.out; omega)) HC.out.hx.size (wname (n : Int)))
    go_wp2_with fail
    refine HCL.out.mono ?_
    rintro e w8 ⟨S8, rfl, hs8⟩
    obtain ⟨hc8, hk8⟩ := HC.out.disk hs8
    replace HR7 := Lib.hid (row_keptT HR7.out hs8.kb (fun j C T fz hq hb => by rcases HC.out.hd.types j hq _ _ _ hb with rfl | rfl | rfl <;> decide))
    replace HB := Lib.hid (HB.out.step hk8)
    replace HK := Lib.hid (HK.out.trans hk8)
    replace HC := Lib.hid hc8
    clear hs8 hc8 hk8
    clear HCL
    replace HUG := Lib.hid (show (dSync d' (wname (n : Int))).2 = 0 → wMend d' (SS.getLastD ⟨1, 0, 0⟩) false = ((dSync d' (wname (n : Int))).1, 0) from fun h => by rw [HUG.out]; exact Prod.ext rfl h)
    generalize dSync d' (wname (n : Int)) = x at *
    by_cases hx0 : x.2 = 0
    rotate_left
    ·have hx1 : ¬ (x.2 : Int) = 0 := by omega
     have HU := Lib.hid (HUB.out hx0)
     clear hx0
     go_wp2_with fail
     go_ret3
     exact ROpenQ.bad HU.out rfl (Cont.rks HC.out HK.out)
    have HU := Lib.hid (HUG.out hx0)
    have hkn : IntKind.i64.wrap ((k : Int) + 1) = (NL : Int) := by rw [IntWalk.i64_in _ (by omega)]; have := HKL.out; omega
    rw [hx0]
    clear hx0
    go_wp2_with fail
    go_roundw
    case rel => exact ⟨NL, SS, acc ++ rows, _, _, x.1, Nat.le_refl _, rfl, HR7.out, .inr ⟨rfl, by omega, false, HQ.out, HNE.out, HU.out, HC.out, HK.out, HB.out⟩⟩
    case measure => simp [intOf]; omega
  ·obtain ⟨q, hqd⟩ : ∃ q, q = (NL : Int) - 1 := ⟨_, rfl⟩
   have hkq : ¬ (k : Int) = q := by omega
   have hwl : IntKind.i64.wrap ((NL : Int) - 1) = q := by rw [HWL.out, hqd]
   have HKQ := Lib.hid hkq
   obtain ⟨m, hm⟩ : ∃ m, ns[k + 1]? = some m := ⟨_, List.getElem?_eq_getElem (by rw [← HNL.out]; omega)⟩
   have hq : wReadA d' [] [] ns = if eb ≠ 0 ∨ m ≠ n + rows.length then none else wReadA d' (ss ++ [⟨n, rows.length, kb⟩]) (acc ++ rows) (ns.drop (k + 1)) := by
    have hk2 : k + 1 < ns.length := by rw [← HNL.out]; omega
    rw [HRD.out, List.drop_eq_getElem_cons (show k < ns.length by omega), List.drop_eq_getElem_cons hk2]
    have hn := HNK.out
    rw [List.getElem?_eq_getElem (by omega)] at hn
    injection hn with hn
    rw [List.getElem?_eq_getElem hk2] at hm
    injection hm with hm
    rw [hn, hm]
    conv => lhs; unfold wReadA
    unfold wseg
    rw [← HRW.out]
   have HQ := Lib.hid hq
   obtain ⟨k2, hk2⟩ : ∃ k2, k2 = k + 1 := ⟨_, rfl⟩
   rw [← hk2] at hm hq HQ
   have HM := Lib.hid hm
   have HK2W := Lib.hid (show IntKind.i64.wrap ((k : Int) + 1) = (k2 : Int) by rw [IntWalk.i64_in _ (by omega)]; omega)
   have HK2L := Lib.hid (show k2 < NL by omega)
   have HK2 := Lib.hid hk2
   obtain ⟨sm, hs⟩ : ∃ sm, sm = n + rows.length := ⟨_, rfl⟩
   have HSW := Lib.hid (show IntKind.i64.wrap ((n : Int) + (rows.length : Int)) = (sm : Int) by rw [IntWalk.i64_in _ (by have := HN9.out; have := HRL.out; omega)]; omega)
   rw [← hs] at HQ
   clear hm hq hqd hs hk2 hlast
   go_wp2_with fail
   clear hkq hwl
   rw [show ((k : Int) == q) = false by simpa using HKQ.out]
   by_cases hbad : eb = 0
   rotate_left
   ·rw [if_pos (.inl hbad)] at HQ
    refine wp_region_mono (by kernel_rfl) (by kernel_rfl) ?_
    refine tele_move rfl (.inl rfl) rfl (isV (.bool false)) (fun ρ w' h => h) ?_
    refine tele_val rfl (.bool true) (fun _ _ _ => rfl) ?_ ?_
    ·rintro ρ w' he ⟨h69, -⟩
     have e69 : ρ 69 = (.bool false) := h69
     simp [execOp, evR, e69, go_sem]
    refine tele_move rfl (.inl rfl) rfl (isV (.bool true)) (fun ρ w' h => h) ?_
    refine tele_val rfl ((.int .i64 (eb : Int))) (fun ρ w' hk => by obtain ⟨_, hg, -⟩ := hk; have eg : ρ 71 = (.bool true) := hg; simp [wantedR, Region.wanted, asBoolR, eg]) ?_ ?_
    ·rintro ρ w' he ⟨h15, -⟩
     have e15 : ρ 15 = (.int .i64 (eb : Int)) := h15
     simp [execOp, evR, e15]
    refine tele_val rfl (.bool true) (fun ρ w' hk => by obtain ⟨_, hg, -⟩ := hk; have eg : ρ 71 = (.bool true) := hg; simp [wantedR, Region.wanted, asBoolR, eg]) ?_ ?_
    ·rintro ρ w' he ⟨h72, -⟩
     have e72 : ρ 72 = (.int .i64 (eb : Int)) := h72
     simp [execOp, evR, e72, go_sem]
     omega
    refine tele_val rfl ((.bool true)) (fun ρ w' hk => by obtain ⟨_, hg, -⟩ := hk; have eg : ρ 71 = (.bool true) := hg; simp [wantedR, Region.wanted, asBoolR, eg]) ?_ ?_
    ·rintro ρ w' he ⟨h73, -⟩
     have e73 : ρ 73 = (.bool true) := h73
     simp [execOp, evR, e73]
    refine tele_pass rfl (fun ρ w' hk => by obtain ⟨_, hg, -⟩ := hk; have eg : ρ 74 = (.bool true) := hg; simp [wantedR, Region.wanted, asBoolR, eg]) ?_
    refine tele_pass rfl (fun ρ w' hk => by obtain ⟨_, hg, -⟩ := hk; have eg : ρ 74 = (.bool true) := hg; simp [wantedR, Region.wanted, asBoolR, eg]) ?_
    refine tele_pass rfl (fun ρ w' hk => by obtain ⟨_, hg, -⟩ := hk; have eg : ρ 74 = (.bool true) := hg; simp [wantedR, Region.wanted, asBoolR, eg]) ?_
    refine tele_pass rfl (fun ρ w' hk => by obtain ⟨_, _, hg, -⟩ := hk; have eg : ρ 74 = (.bool true) := hg; simp [wantedR, Region.wanted, asBoolR, eg]) ?_
    refine tele_pass rfl (fun ρ w' hk => by obtain ⟨_, hg, -⟩ := hk; have eg : ρ 74 = (.bool true) := hg; simp [wantedR, Region.wanted, asBoolR, eg]) ?_
    refine tele_pass rfl (fun ρ w' hk => by obtain ⟨_, hg, -⟩ := hk; have eg : ρ 74 = (.bool true) := hg; simp [wantedR, Region.wanted, asBoolR, eg]) ?_
    refine tele_pass rfl (fun ρ w' hk => by obtain ⟨_, hg, -⟩ := hk; have eg : ρ 74 = (.bool true) := hg; simp [wantedR, Region.wanted, asBoolR, eg]) ?_
    refine tele_pass rfl (fun ρ w' hk => by obtain ⟨_, _, hg, -⟩ := hk; have eg : ρ 74 = (.bool true) := hg; simp [wantedR, Region.wanted, asBoolR, eg]) ?_
    refine tele_pass rfl (fun ρ w' hk => by obtain ⟨_, hg, -⟩ := hk; have eg : ρ 74 = (.bool true) := hg; simp [wantedR, Region.wanted, asBoolR, eg]) ?_
    refine tele_pass rfl (fun ρ w' hk => by obtain ⟨_, hg, -⟩ := hk; have eg : ρ 74 = (.bool true) := hg; simp [wantedR, Region.wanted, asBoolR, eg]) ?_
    refine tele_pass rfl (fun ρ w' hk => by obtain ⟨_, hg, -⟩ := hk; have eg : ρ 74 = (.bool true) := hg; simp [wantedR, Region.wanted, asBoolR, eg]) ?_
    refine tele_pass rfl (fun ρ w' hk => by obtain ⟨_, _, hg, -⟩ := hk; have eg : ρ 74 = (.bool true) := hg; simp [wantedR, Region.wanted, asBoolR, eg]) ?_
    refine tele_pass rfl (fun ρ w' hk => by obtain ⟨_, _, hg, -⟩ := hk; have eg : ρ 74 = (.bool true) := hg; simp [wantedR, Region.wanted, asBoolR, eg]) ?_
    refine tele_val rfl (.bool true) (fun ρ w' hk => by obtain ⟨_, _, hg, -⟩ := hk; have eg : ρ 71 = (.bool true) := hg; simp [wantedR, Region.wanted, asBoolR, eg]) ?_ ?_
    ·rintro ρ w' he ⟨h74, h87, -⟩
     have e74 : ρ 74 = (.bool true) := h74
     have e87 : ρ 87 = undef := h87
     simp [execOp, evR, e74, e87, go_sem]
    refine tele_val rfl (.bool true) (fun _ _ _ => rfl) ?_ ?_
    ·rintro ρ w' he ⟨h71, h88, -⟩
     have e71 : ρ 71 = (.bool true) := h71
     have e88 : ρ 88 = (.bool true) := h88
     simp [execOp, evR, e71, e88, go_sem]
    refine tele_nil ?_
    rintro ρ wb hext ⟨f89, f88, f87, f86, f85, f84, f83, f82, f81, f80, f79, f78, f77, f76, f75, f74, f73, f72, f71, f70, f69, -⟩
    replace f89 : ρ 89 = (.bool true) := f89
    simp only [puts, Act.put, List.setIfInBounds_toArray, List.set_cons_zero, List.set_cons_succ]
    rw [f89]
    clear f69 f70 f71 f72 f73 f74 f75 f76 f77 f78 f79 f80 f81 f82 f83 f84 f85 f86 f87 f88 f89
    replace HJ2 := Lib.hid (HJ2.out.ext hext)
    replace HR2 := Lib.hid (row_keptT HR2.out (Kb.of_ext (fp := fun _ => False) hext) (fun _ _ _ _ h => h.elim))
    replace HBR := Lib.hid (HBR.out.ext hext)
    clear hext
    clear hbad
    have HU := Lib.hid (wopen_none HON.out HZ1.out HZ2.out (by rw [← HWN.out]; exact HQ.out))
    obtain ⟨hk9, hb9⟩ := HJ2.out.done HW1.out HBL.out HD.out HX.out.size
    have HK := Lib.hid hk9
    clear hk9 hb9
    go_wp2_with fail
    go_ret3
    exact ROpenQ.bad HU.out rfl (Cont.rks HJ2.out.cx HK.out)
   subst hbad
   by_cases hms : m = sm
   rotate_left
   ·rw [if_pos (.inr hms)] at HQ
    refine wp_region_mono (by kernel_rfl) (by kernel_rfl) ?_
    refine tele_move rfl (.inl rfl) rfl (isV (.bool false)) (fun ρ w' h => h) ?_
    refine tele_val rfl (.bool true) (fun _ _ _ => rfl) ?_ ?_
    ·rintro ρ w' he ⟨h69, -⟩
     have e69 : ρ 69 = (.bool false) := h69
     simp [execOp, evR, e69, go_sem]
    refine tele_move rfl (.inl rfl) rfl (isV (.bool true)) (fun ρ w' h => h) ?_
    refine tele_val rfl ((.int .i64 ((0 : Nat) : Int))) (fun ρ w' hk => by obtain ⟨_, hg, -⟩ := hk; have eg : ρ 71 = (.bool true) := hg; simp [wantedR, Region.wanted, asBoolR, eg]) ?_ ?_
    ·rintro ρ w' he ⟨h15, -⟩
     have e15 : ρ 15 = (.int .i64 ((0 : Nat) : Int)) := h15
     simp [execOp, evR, e15]
    refine tele_val rfl (.bool false) (fun ρ w' hk => by obtain ⟨_, hg, -⟩ := hk; have eg : ρ 71 = (.bool true) := hg; simp [wantedR, Region.wanted, asBoolR, eg]) ?_ ?_
    ·rintro ρ w' he ⟨h72, -⟩
     have e72 : ρ 72 = (.int .i64 ((0 : Nat) : Int)) := h72
     simp [execOp, evR, e72, go_sem]
    refine tele_val rfl ((.bool false)) (fun ρ w' hk => by obtain ⟨_, hg, -⟩ := hk; have eg : ρ 71 = (.bool true) := hg; simp [wantedR, Region.wanted, asBoolR, eg]) ?_ ?_
    ·rintro ρ w' he ⟨h73, -⟩
     have e73 : ρ 73 = (.bool false) := h73
     simp [execOp, evR, e73]
    refine tele_val rfl ((.slice (some ⟨g, 0, none⟩) NL c5)) (fun ρ w' hk => by obtain ⟨_, hg, -⟩ := hk; have eg : ρ 74 = (.bool false) := hg; simp [wantedR, Region.wanted, asBoolR, eg]) ?_ ?_
    ·rintro ρ w' he ⟨h9, -⟩
     have e9 : ρ 9 = (.slice (some ⟨g, 0, none⟩) NL c5) := h9
     simp [execOp, evR, e9]
    refine tele_val rfl ((.int .i64 (k : Int))) (fun ρ w' hk => by obtain ⟨_, hg, -⟩ := hk; have eg : ρ 74 = (.bool false) := hg; simp [wantedR, Region.wanted, asBoolR, eg]) ?_ ?_
    ·rintro ρ w' he ⟨h10, -⟩
     have e10 : ρ 10 = (.int .i64 (k : Int)) := h10
     simp [execOp, evR, e10]
    refine tele_val rfl (.int .i64 (k2 : Int)) (fun ρ w' hk => by obtain ⟨_, hg, -⟩ := hk; have eg : ρ 74 = (.bool false) := hg; simp [wantedR, Region.wanted, asBoolR, eg]) ?_ ?_
    ·rintro ρ w' he ⟨h76, -⟩
     have e76 : ρ 76 = (.int .i64 (k : Int)) := h76
     have hw := HK2W.out
     simp [execOp, evR, e76, hw, go_sem]
    refine tele_val rfl (.pointer (some ⟨g, k2, none⟩)) (fun ρ w' hk => by obtain ⟨_, _, hg, -⟩ := hk; have eg : ρ 74 = (.bool false) := hg; simp [wantedR, Region.wanted, asBoolR, eg]) ?_ ?_
    ·rintro ρ w' he ⟨h75, h77, -⟩
     have e75 : ρ 75 = (.slice (some ⟨g, 0, none⟩) NL c5) := h75
     have e77 : ρ 77 = (.int .i64 (k2 : Int)) := h77
     exact index_rint rfl e75 e77 HK2L.out
    refine tele_val rfl (.int .i64 (m : Int)) (fun ρ w' hk => by obtain ⟨_, hg, -⟩ := hk; have eg : ρ 74 = (.bool false) := hg; simp [wantedR, Region.wanted, asBoolR, eg]) ?_ ?_
    ·rintro ρ w' he ⟨h78, -⟩
     have e78 : ρ 78 = (.pointer (some ⟨g, k2, none⟩)) := h78
     have c := ints_cell (row_keptT HR2.out (Kb.of_ext (fp := fun _ => False) he) (fun _ _ _ _ h => h.elim)) HNL.out HM.out
     simp [execOp, evR, e78, c, go_sem]
    refine tele_val rfl ((.slice (some ⟨g, 0, none⟩) NL c5)) (fun ρ w' hk => by obtain ⟨_, hg, -⟩ := hk; have eg : ρ 74 = (.bool false) := hg; simp [wantedR, Region.wanted, asBoolR, eg]) ?_ ?_
    ·rintro ρ w' he ⟨h9, -⟩
     have e9 : ρ 9 = (.slice (some ⟨g, 0, none⟩) NL c5) := h9
     simp [execOp, evR, e9]
    refine tele_val rfl ((.int .i64 (k : Int))) (fun ρ w' hk => by obtain ⟨_, hg, -⟩ := hk; have eg : ρ 74 = (.bool false) := hg; simp [wantedR, Region.wanted, asBoolR, eg]) ?_ ?_
    ·rintro ρ w' he ⟨h10, -⟩
     have e10 : ρ 10 = (.int .i64 (k : Int)) := h10
     simp [execOp, evR, e10]
    refine tele_val rfl (.pointer (some ⟨g, k, none⟩)) (fun ρ w' hk => by obtain ⟨_, _, hg, -⟩ := hk; have eg : ρ 74 = (.bool false) := hg; simp [wantedR, Region.wanted, asBoolR, eg]) ?_ ?_
    ·rintro ρ w' he ⟨h80, h81, -⟩
     have e80 : ρ 80 = (.slice (some ⟨g, 0, none⟩) NL c5) := h80
     have e81 : ρ 81 = (.int .i64 (k : Int)) := h81
     exact index_rint rfl e80 e81 hlt
    refine tele_val rfl (.int .i64 (n : Int)) (fun ρ w' hk => by obtain ⟨_, hg, -⟩ := hk; have eg : ρ 74 = (.bool false) := hg; simp [wantedR, Region.wanted, asBoolR, eg]) ?_ ?_
    ·rintro ρ w' he ⟨h82, -⟩
     have e82 : ρ 82 = (.pointer (some ⟨g, k, none⟩)) := h82
     have c := ints_cell (row_keptT HR2.out (Kb.of_ext (fp := fun _ => False) he) (fun _ _ _ _ h => h.elim)) HNL.out HNK.out
     simp [execOp, evR, e82, c, go_sem]
    refine tele_val rfl ((.slice Ar rows.length cr)) (fun ρ w' hk => by obtain ⟨_, hg, -⟩ := hk; have eg : ρ 74 = (.bool false) := hg; simp [wantedR, Region.wanted, asBoolR, eg]) ?_ ?_
    ·rintro ρ w' he ⟨h13, -⟩
     have e13 : ρ 13 = (.slice Ar rows.length cr) := h13
     simp [execOp, evR, e13]
    refine tele_val rfl (.int .i64 (rows.length : Int)) (fun ρ w' hk => by obtain ⟨_, hg, -⟩ := hk; have eg : ρ 74 = (.bool false) := hg; simp [wantedR, Region.wanted, asBoolR, eg]) ?_ ?_
    ·rintro ρ w' he ⟨h84, -⟩
     have e84 : ρ 84 = (.slice Ar rows.length cr) := h84
     simp [execOp, evR, e84, go_sem]
    refine tele_val rfl (.int .i64 (sm : Int)) (fun ρ w' hk => by obtain ⟨_, _, hg, -⟩ := hk; have eg : ρ 74 = (.bool false) := hg; simp [wantedR, Region.wanted, asBoolR, eg]) ?_ ?_
    ·rintro ρ w' he ⟨h83, h85, -⟩
     have e83 : ρ 83 = (.int .i64 (n : Int)) := h83
     have e85 : ρ 85 = (.int .i64 (rows.length : Int)) := h85
     have hw := HSW.out
     simp [execOp, evR, e83, e85, hw, go_sem]
    refine tele_val rfl (.bool true) (fun ρ w' hk => by obtain ⟨_, _, hg, -⟩ := hk; have eg : ρ 74 = (.bool false) := hg; simp [wantedR, Region.wanted, asBoolR, eg]) ?_ ?_
    ·rintro ρ w' he ⟨h79, h86, -⟩
     have e79 : ρ 79 = (.int .i64 (m : Int)) := h79
     have e86 : ρ 86 = (.int .i64 (sm : Int)) := h86
     simp [execOp, evR, e79, e86, go_sem]
     omega
    refine tele_val rfl (.bool true) (fun ρ w' hk => by obtain ⟨_, _, hg, -⟩ := hk; have eg : ρ 71 = (.bool true) := hg; simp [wantedR, Region.wanted, asBoolR, eg]) ?_ ?_
    ·rintro ρ w' he ⟨h74, h87, -⟩
     have e74 : ρ 74 = (.bool false) := h74
     have e87 : ρ 87 = (.bool true) := h87
     simp [execOp, evR, e74, e87, go_sem]
    refine tele_val rfl (.bool true) (fun _ _ _ => rfl) ?_ ?_
    ·rintro ρ w' he ⟨h71, h88, -⟩
     have e71 : ρ 71 = (.bool true) := h71
     have e88 : ρ 88 = (.bool true) := h88
     simp [execOp, evR, e71, e88, go_sem]
    refine tele_nil ?_
    rintro ρ wb hext ⟨f89, f88, f87, f86, f85, f84, f83, f82, f81, f80, f79, f78, f77, f76, f75, f74, f73, f72, f71, f70, f69, -⟩
    replace f89 : ρ 89 = (.bool true) := f89
    simp only [puts, Act.put, List.setIfInBounds_toArray, List.set_cons_zero, List.set_cons_succ]
    rw [f89]
    clear f69 f70 f71 f72 f73 f74 f75 f76 f77 f78 f79 f80 f81 f82 f83 f84 f85 f86 f87 f88 f89
    replace HJ2 := Lib.hid (HJ2.out.ext hext)
    replace HR2 := Lib.hid (row_keptT HR2.out (Kb.of_ext (fp := fun _ => False) hext) (fun _ _ _ _ h => h.elim))
    replace HBR := Lib.hid (HBR.out.ext hext)
    clear hext
    clear hms
    have HU := Lib.hid (wopen_none HON.out HZ1.out HZ2.out (by rw [← HWN.out]; exact HQ.out))
    obtain ⟨hk9, hb9⟩ := HJ2.out.done HW1.out HBL.out HD.out HX.out.size
    have HK := Lib.hid hk9
    clear hk9 hb9
    go_wp2_with fail
    go_ret3
    exact ROpenQ.bad HU.out rfl (Cont.rks HJ2.out.cx HK.out)
   rw [if_neg (fun h => h.elim (fun h => h rfl) (fun h => h hms))] at HQ
   refine wp_region_mono (by kernel_rfl) (by kernel_rfl) ?_
   refine tele_move rfl (.inl rfl) rfl (isV (.bool false)) (fun ρ w' h => h) ?_
   refine tele_val rfl (.bool true) (fun _ _ _ => rfl) ?_ ?_
   ·rintro ρ w' he ⟨h69, -⟩
    have e69 : ρ 69 = (.bool false) := h69
    simp [execOp, evR, e69, go_sem]
   refine tele_move rfl (.inl rfl) rfl (isV (.bool true)) (fun ρ w' h => h) ?_
   refine tele_val rfl ((.int .i64 ((0 : Nat) : Int))) (fun ρ w' hk => by obtain ⟨_, hg, -⟩ := hk; have eg : ρ 71 = (.bool true) := hg; simp [wantedR, Region.wanted, asBoolR, eg]) ?_ ?_
   ·rintro ρ w' he ⟨h15, -⟩
    have e15 : ρ 15 = (.int .i64 ((0 : Nat) : Int)) := h15
    simp [execOp, evR, e15]
   refine tele_val rfl (.bool false) (fun ρ w' hk => by obtain ⟨_, hg, -⟩ := hk; have eg : ρ 71 = (.bool true) := hg; simp [wantedR, Region.wanted, asBoolR, eg]) ?_ ?_
   ·rintro ρ w' he ⟨h72, -⟩
    have e72 : ρ 72 = (.int .i64 ((0 : Nat) : Int)) := h72
    simp [execOp, evR, e72, go_sem]
   refine tele_val rfl ((.bool false)) (fun ρ w' hk => by obtain ⟨_, hg, -⟩ := hk; have eg : ρ 71 = (.bool true) := hg; simp [wantedR, Region.wanted, asBoolR, eg]) ?_ ?_
   ·rintro ρ w' he ⟨h73, -⟩
    have e73 : ρ 73 = (.bool false) := h73
    simp [execOp, evR, e73]
   refine tele_val rfl ((.slice (some ⟨g, 0, none⟩) NL c5)) (fun ρ w' hk => by obtain ⟨_, hg, -⟩ := hk; have eg : ρ 74 = (.bool false) := hg; simp [wantedR, Region.wanted, asBoolR, eg]) ?_ ?_
   ·rintro ρ w' he ⟨h9, -⟩
    have e9 : ρ 9 = (.slice (some ⟨g, 0, none⟩) NL c5) := h9
    simp [execOp, evR, e9]
   refine tele_val rfl ((.int .i64 (k : Int))) (fun ρ w' hk => by obtain ⟨_, hg, -⟩ := hk; have eg : ρ 74 = (.bool false) := hg; simp [wantedR, Region.wanted, asBoolR, eg]) ?_ ?_
   ·rintro ρ w' he ⟨h10, -⟩
    have e10 : ρ 10 = (.int .i64 (k : Int)) := h10
    simp [execOp, evR, e10]
   refine tele_val rfl (.int .i64 (k2 : Int)) (fun ρ w' hk => by obtain ⟨_, hg, -⟩ := hk; have eg : ρ 74 = (.bool false) := hg; simp [wantedR, Region.wanted, asBoolR, eg]) ?_ ?_
   ·rintro ρ w' he ⟨h76, -⟩
    have e76 : ρ 76 = (.int .i64 (k : Int)) := h76
    have hw := HK2W.out
    simp [execOp, evR, e76, hw, go_sem]
   refine tele_val rfl (.pointer (some ⟨g, k2, none⟩)) (fun ρ w' hk => by obtain ⟨_, _, hg, -⟩ := hk; have eg : ρ 74 = (.bool false) := hg; simp [wantedR, Region.wanted, asBoolR, eg]) ?_ ?_
   ·rintro ρ w' he ⟨h75, h77, -⟩
    have e75 : ρ 75 = (.slice (some ⟨g, 0, none⟩) NL c5) := h75
    have e77 : ρ 77 = (.int .i64 (k2 : Int)) := h77
    exact index_rint rfl e75 e77 HK2L.out
   refine tele_val rfl (.int .i64 (m : Int)) (fun ρ w' hk => by obtain ⟨_, hg, -⟩ := hk; have eg : ρ 74 = (.bool false) := hg; simp [wantedR, Region.wanted, asBoolR, eg]) ?_ ?_
   ·rintro ρ w' he ⟨h78, -⟩
    have e78 : ρ 78 = (.pointer (some ⟨g, k2, none⟩)) := h78
    have c := ints_cell (row_keptT HR2.out (Kb.of_ext (fp := fun _ => False) he) (fun _ _ _ _ h => h.elim)) HNL.out HM.out
    simp [execOp, evR, e78, c, go_sem]
   refine tele_val rfl ((.slice (some ⟨g, 0, none⟩) NL c5)) (fun ρ w' hk => by obtain ⟨_, hg, -⟩ := hk; have eg : ρ 74 = (.bool false) := hg; simp [wantedR, Region.wanted, asBoolR, eg]) ?_ ?_
   ·rintro ρ w' he ⟨h9, -⟩
    have e9 : ρ 9 = (.slice (some ⟨g, 0, none⟩) NL c5) := h9
    simp [execOp, evR, e9]
   refine tele_val rfl ((.int .i64 (k : Int))) (fun ρ w' hk => by obtain ⟨_, hg, -⟩ := hk; have eg : ρ 74 = (.bool false) := hg; simp [wantedR, Region.wanted, asBoolR, eg]) ?_ ?_
   ·rintro ρ w' he ⟨h10, -⟩
    have e10 : ρ 10 = (.int .i64 (k : Int)) := h10
    simp [execOp, evR, e10]
   refine tele_val rfl (.pointer (some ⟨g, k, none⟩)) (fun ρ w' hk => by obtain ⟨_, _, hg, -⟩ := hk; have eg : ρ 74 = (.bool false) := hg; simp [wantedR, Region.wanted, asBoolR, eg]) ?_ ?_
   ·rintro ρ w' he ⟨h80, h81, -⟩
    have e80 : ρ 80 = (.slice (some ⟨g, 0, none⟩) NL c5) := h80
    have e81 : ρ 81 = (.int .i64 (k : Int)) := h81
    exact index_rint rfl e80 e81 hlt
   refine tele_val rfl (.int .i64 (n : Int)) (fun ρ w' hk => by obtain ⟨_, hg, -⟩ := hk; have eg : ρ 74 = (.bool false) := hg; simp [wantedR, Region.wanted, asBoolR, eg]) ?_ ?_
   ·rintro ρ w' he ⟨h82, -⟩
    have e82 : ρ 82 = (.pointer (some ⟨g, k, none⟩)) := h82
    have c := ints_cell (row_keptT HR2.out (Kb.of_ext (fp := fun _ => False) he) (fun _ _ _ _ h => h.elim)) HNL.out HNK.out
    simp [execOp, evR, e82, c, go_sem]
   refine tele_val rfl ((.slice Ar rows.length cr)) (fun ρ w' hk => by obtain ⟨_, hg, -⟩ := hk; have eg : ρ 74 = (.bool false) := hg; simp [wantedR, Region.wanted, asBoolR, eg]) ?_ ?_
   ·rintro ρ w' he ⟨h13, -⟩
    have e13 : ρ 13 = (.slice Ar rows.length cr) := h13
    simp [execOp, evR, e13]
   refine tele_val rfl (.int .i64 (rows.length : Int)) (fun ρ w' hk => by obtain ⟨_, hg, -⟩ := hk; have eg : ρ 74 = (.bool false) := hg; simp [wantedR, Region.wanted, asBoolR, eg]) ?_ ?_
   ·rintro ρ w' he ⟨h84, -⟩
    have e84 : ρ 84 = (.slice Ar rows.length cr) := h84
    simp [execOp, evR, e84, go_sem]
   refine tele_val rfl (.int .i64 (sm : Int)) (fun ρ w' hk => by obtain ⟨_, _, hg, -⟩ := hk; have eg : ρ 74 = (.bool false) := hg; simp [wantedR, Region.wanted, asBoolR, eg]) ?_ ?_
   ·rintro ρ w' he ⟨h83, h85, -⟩
    have e83 : ρ 83 = (.int .i64 (n : Int)) := h83
    have e85 : ρ 85 = (.int .i64 (rows.length : Int)) := h85
    have hw := HSW.out
    simp [execOp, evR, e83, e85, hw, go_sem]
   refine tele_val rfl (.bool false) (fun ρ w' hk => by obtain ⟨_, _, hg, -⟩ := hk; have eg : ρ 74 = (.bool false) := hg; simp [wantedR, Region.wanted, asBoolR, eg]) ?_ ?_
   ·rintro ρ w' he ⟨h79, h86, -⟩
    have e79 : ρ 79 = (.int .i64 (m : Int)) := h79
    have e86 : ρ 86 = (.int .i64 (sm : Int)) := h86
    simp [execOp, evR, e79, e86, go_sem]
    omega
   refine tele_val rfl (.bool false) (fun ρ w' hk => by obtain ⟨_, _, hg, -⟩ := hk; have eg : ρ 71 = (.bool true) := hg; simp [wantedR, Region.wanted, asBoolR, eg]) ?_ ?_
   ·rintro ρ w' he ⟨h74, h87, -⟩
    have e74 : ρ 74 = (.bool false) := h74
    have e87 : ρ 87 = (.bool false) := h87
    simp [execOp, evR, e74, e87, go_sem]
   refine tele_val rfl (.bool false) (fun _ _ _ => rfl) ?_ ?_
   ·rintro ρ w' he ⟨h71, h88, -⟩
    have e71 : ρ 71 = (.bool true) := h71
    have e88 : ρ 88 = (.bool false) := h88
    simp [execOp, evR, e71, e88, go_sem]
   refine tele_nil ?_
   rintro ρ wb hext ⟨f89, f88, f87, f86, f85, f84, f83, f82, f81, f80, f79, f78, f77, f76, f75, f74, f73, f72, f71, f70, f69, -⟩
   replace f89 : ρ 89 = (.bool false) := f89
   simp only [puts, Act.put, List.setIfInBounds_toArray, List.set_cons_zero, List.set_cons_succ]
   rw [f89]
   clear f69 f70 f71 f72 f73 f74 f75 f76 f77 f78 f79 f80 f81 f82 f83 f84 f85 f86 f87 f88 f89
   replace HJ2 := Lib.hid (HJ2.out.ext hext)
   replace HR2 := Lib.hid (row_keptT HR2.out (Kb.of_ext (fp := fun _ => False) hext) (fun _ _ _ _ h => h.elim))
   replace HBR := Lib.hid (HBR.out.ext hext)
   clear hext
   clear hms
   have HLT2 := Lib.hid hlt
   go_wp2_with fail
   refine wp_region_turns 3 [(0, 2, false), (0, 2, false), (0, 2, false), (0, 2, false), (0, 1, false), (0, 2, false), (0, 2, false), (0, 2, false), (0, 2, false), (0, 2, false), (0, 2, false), (0, 2, false), (0, 0, false), (0, 0, true), (1, 1, true), (2, 3, false), (2, 2, false), (2, 2, true)] (fun w0 c => match c with | 0 => w0 | 1 => w0.alloc (.cells #[.int .i64 (n : Int), .int .i64 (rows.length : Int), .int .i64 (kb : Int)] 96) | 2 => resW ((Builtin.append_ #[61, 61] 61 #[v, .slice (some ⟨w0.heap.size, 0, none⟩) 1 1]).run Tryz.prog (w0.alloc (.cells #[.int .i64 (n : Int), .int .i64 (rows.length : Int), .int .i64 (kb : Int)] 96))) w0 | _ => (resW ((Builtin.append_ #[61, 61] 61 #[v, .slice (some ⟨w0.heap.size, 0, none⟩) 1 1]).run Tryz.prog (w0.alloc (.cells #[.int .i64 (n : Int), .int .i64 (rows.length : Int), .int .i64 (kb : Int)] 96))) w0).setCell ⟨bl, 2, none⟩ (resV ((Builtin.append_ #[61, 61] 61 #[v, .slice (some ⟨w0.heap.size, 0, none⟩) 1 1]).run Tryz.prog (w0.alloc (.cells #[.int .i64 (n : Int), .int .i64 (rows.length : Int), .int .i64 (kb : Int)] 96))))) (by kernel_rfl) (by kernel_rfl) (by kernel_rfl) (fun _ => rfl) ?_
   intro w0 ws hext hsz hws
   have q0 : ws 0 = w0 := hws 0
   have q1 : ws 1 = w0.alloc (.cells #[.int .i64 (n : Int), .int .i64 (rows.length : Int), .int .i64 (kb : Int)] 96) := hws 1
   have q2 : ws 2 = resW ((Builtin.append_ #[61, 61] 61 #[v, .slice (some ⟨w0.heap.size, 0, none⟩) 1 1]).run Tryz.prog (w0.alloc (.cells #[.int .i64 (n : Int), .int .i64 (rows.length : Int), .int .i64 (kb : Int)] 96))) w0 := hws 2
   have q3 : ws 3 = (resW ((Builtin.append_ #[61, 61] 61 #[v, .slice (some ⟨w0.heap.size, 0, none⟩) 1 1]).run Tryz.prog (w0.alloc (.cells #[.int .i64 (n : Int), .int .i64 (rows.length : Int), .int .i64 (kb : Int)] 96))) w0).setCell ⟨bl, 2, none⟩ (resV ((Builtin.append_ #[61, 61] 61 #[v, .slice (some ⟨w0.heap.size, 0, none⟩) 1 1]).run Tryz.prog (w0.alloc (.cells #[.int .i64 (n : Int), .int .i64 (rows.length : Int), .int .i64 (kb : Int)] 96)))) := hws 3
   clear hws
   have hj0 := HJ2.out.ext hext
   have hr0 := row_keptT HR2.out (Kb.of_ext (fp := fun _ => False) hext) (fun _ _ _ _ h => h.elim)
   have hb0 := HBR.out.ext hext
   obtain ⟨g', cv', w5, hrun, hk0, ht0, hkb5, hkb6, hj6⟩ := hj0.seg (by rw [HSS.out]; omega) ⟨n, rows.length, kb⟩ 61
   dsimp only at hrun
   rw [hrun] at q2 q3
   simp only [resW, resV] at q2 q3
   have hty : ∀ j (C : Array Value) (T : TypeId) fz, lall bl v j → w0.heap[j]? = some (.cells C T fz) → T = 63 ∨ T = 96 := hj0.cx.hl.ltype
   have kcw0 := ints_cell hr0 HNL.out HNK.out
   have kcw1 := ints_cell (row_keptT hr0 (Kb.of_ext (fp := fun _ => False) (ext_alloc w0 (.cells #[.int .i64 (n : Int), .int .i64 (rows.length : Int), .int .i64 (kb : Int)] 96))) (fun _ _ _ _ h => h.elim)) HNL.out HNK.out
   have kcw2 := ints_cell (row_keptT hr0 hkb5 (fun j C T fz hq hb => by rcases hty j C T fz hq hb with rfl | rfl <;> decide)) HNL.out HNK.out
   have hr6 := row_keptT hr0 hkb6 (fun j C T fz hq hb => by rcases hty j C T fz hq hb with rfl | rfl <;> decide)
   have kcw3 := ints_cell hr6 HNL.out HNK.out
   have brw0 := hj0.cx.hl.str.blk
   have brw1 := brw0.ext (ext_alloc w0 (.cells #[.int .i64 (n : Int), .int .i64 (rows.length : Int), .int .i64 (kb : Int)] 96))
   simp only [rlstr] at brw0 brw1
   refine detT_pure rfl (.pointer (some ⟨bl, 0, none⟩)) (fun _ _ => rfl) ?_ ?_
   ·rintro ρ ⟨h7, -⟩ w'
    have e7 : ρ 7 = .pointer (some ⟨bl, 0, none⟩) := h7
    simp [execOp, evR, e7, go_sem]
   refine detT_pure rfl (.pointer (some ⟨bl, 0, none⟩)) (fun _ _ => rfl) ?_ ?_
   ·rintro ρ ⟨h7, -⟩ w'
    have e7 : ρ 7 = .pointer (some ⟨bl, 0, none⟩) := h7
    simp [execOp, evR, e7, go_sem]
   refine detT_pure rfl (.pointer (some ⟨bl, 0, none⟩)) (fun _ _ => rfl) ?_ ?_
   ·rintro ρ ⟨h91, -⟩ w'
    have e91 : ρ 91 = .pointer (some ⟨bl, 0, none⟩) := h91
    simp [execOp, evR, e91, go_sem]
   refine detT_pure rfl (.pointer (some ⟨bl, 2, none⟩)) (fun _ _ => rfl) ?_ ?_
   ·rintro ρ ⟨h92, -⟩ w'
    have e92 : ρ 92 = .pointer (some ⟨bl, 0, none⟩) := h92
    simp [execOp, evR, e92, go_sem]
   refine detT_read rfl (v) (fun _ _ => rfl) ?_ ?_
   ·rintro ρ ⟨h93, -⟩ c hc1 hc2
    have e93 : ρ 93 = .pointer (some ⟨bl, 2, none⟩) := h93
    have hc : c = 0 ∨ c = 1 := by have h1 : 0 ≤ c := hc1; have h2 : c ≤ 1 := hc2; omega
    rcases hc with rfl | rfl
    ·rw [q0]
     have c := brw0.cell (i := 2) rfl
     simp [execOp, evR, e93, c, go_sem]
    ·rw [q1]
     have c := brw1.cell (i := 2) rfl
     simp [execOp, evR, e93, c, go_sem]
   refine detT_pure rfl (.slice (some ⟨g, 0, none⟩) NL c5) (fun _ _ => rfl) ?_ ?_
   ·rintro ρ ⟨h9, -⟩ w'
    have e9 : ρ 9 = .slice (some ⟨g, 0, none⟩) NL c5 := h9
    simp [execOp, evR, e9, go_sem]
   refine detT_pure rfl (.int .i64 (k : Int)) (fun _ _ => rfl) ?_ ?_
   ·rintro ρ ⟨h10, -⟩ w'
    have e10 : ρ 10 = .int .i64 (k : Int) := h10
    simp [execOp, evR, e10, go_sem]
   refine detT_pure rfl (.pointer (some ⟨g, k, none⟩)) (fun _ _ => rfl) ?_ ?_
   ·rintro ρ ⟨h95, h96, -⟩ w'
    have e95 : ρ 95 = .slice (some ⟨g, 0, none⟩) NL c5 := h95
    have e96 : ρ 96 = .int .i64 (k : Int) := h96
    exact index_rint rfl e95 e96 HLT2.out
   refine detT_read rfl (.int .i64 (n : Int)) (fun _ _ => rfl) ?_ ?_
   ·rintro ρ ⟨h97, -⟩ c hc1 hc2
    have e97 : ρ 97 = .pointer (some ⟨g, k, none⟩) := h97
    have hc : c = 0 ∨ c = 1 ∨ c = 2 := by have h1 : 0 ≤ c := hc1; have h2 : c ≤ 2 := hc2; omega
    rcases hc with rfl | rfl | rfl
    ·rw [q0]
     simp [execOp, evR, e97, kcw0, go_sem]
    ·rw [q1]
     simp [execOp, evR, e97, kcw1, go_sem]
    ·rw [q2]
     simp [execOp, evR, e97, kcw2, go_sem]
   refine detT_pure rfl (.slice Ar rows.length cr) (fun _ _ => rfl) ?_ ?_
   ·rintro ρ ⟨h13, -⟩ w'
    have e13 : ρ 13 = .slice Ar rows.length cr := h13
    simp [execOp, evR, e13, go_sem]
   refine detT_pure rfl (.int .i64 (rows.length : Int)) (fun _ _ => rfl) ?_ ?_
   ·rintro ρ ⟨h99, -⟩ w'
    have e99 : ρ 99 = .slice Ar rows.length cr := h99
    simp [execOp, evR, e99, go_sem]
   refine detT_pure rfl (.int .i64 (kb : Int)) (fun _ _ => rfl) ?_ ?_
   ·rintro ρ ⟨h14, -⟩ w'
    have e14 : ρ 14 = .int .i64 (kb : Int) := h14
    simp [execOp, evR, e14, go_sem]
   refine detT_pure rfl (.agg #[.int .i64 (n : Int), .int .i64 (rows.length : Int), .int .i64 (kb : Int)]) (fun _ _ => rfl) ?_ ?_
   ·rintro ρ ⟨h98, h100, h101, -⟩ w'
    have e98 : ρ 98 = .int .i64 (n : Int) := h98
    have e100 : ρ 100 = .int .i64 (rows.length : Int) := h100
    have e101 : ρ 101 = .int .i64 (kb : Int) := h101
    simp [execOp, evR, e98, e100, e101, go_sem]
   refine detT_turn rfl (.slice (some ⟨w0.heap.size, 0, none⟩) 1 1) (fun _ _ => rfl) ?_ ?_
   ·rintro ρ ⟨h102, -⟩
    have e102 : ρ 102 = .agg #[.int .i64 (n : Int), .int .i64 (rows.length : Int), .int .i64 (kb : Int)] := h102
    show (execOp (evR ρ) _).run Tryz.prog (ws 0) = .ok (.value _) (ws 1)
    rw [q0, q1]
    simp [execOp, evR, e102, go_sem]
   refine detT_turn rfl (.slice (some ⟨g', 0, none⟩) (ss.length + 1) cv') (fun _ _ => rfl) ?_ ?_
   ·rintro ρ ⟨h94, h103, -⟩
    have e94 : ρ 94 = v := h94
    have e103 : ρ 103 = .slice (some ⟨w0.heap.size, 0, none⟩) 1 1 := h103
    show (execOp (evR ρ) _).run Tryz.prog (ws 1) = .ok (.value _) (ws 2)
    rw [q1, q2]
    simp only [execOp, resolve, invoke, builtin, evR, List.map_toArray, List.map_cons, List.map_nil, e94, e103, Sem.run_bind, Sem.run_pure, Result.andThen_ok, hrun]
   refine detT_pure rfl (.pointer (some ⟨bl, 0, none⟩)) (fun _ _ => rfl) ?_ ?_
   ·rintro ρ ⟨h90, -⟩ w'
    have e90 : ρ 90 = .pointer (some ⟨bl, 0, none⟩) := h90
    simp [execOp, evR, e90, go_sem]
   refine detT_pure rfl (.pointer (some ⟨bl, 2, none⟩)) (fun _ _ => rfl) ?_ ?_
   ·rintro ρ ⟨h105, -⟩ w'
    have e105 : ρ 105 = .pointer (some ⟨bl, 0, none⟩) := h105
    simp [execOp, evR, e105, go_sem]
   refine detT_store rfl (fun _ _ => rfl) ?_ ?_
   ·rintro ρ ⟨h106, h104, -⟩
    have e106 : ρ 106 = .pointer (some ⟨bl, 2, none⟩) := h106
    have e104 : ρ 104 = .slice (some ⟨g', 0, none⟩) (ss.length + 1) cv' := h104
    show (execOp (evR ρ) _).run Tryz.prog (ws 2) = .ok .skip (ws 3)
    rw [q2, q3]
    simp [execOp, evR, e106, e104, hk0, ht0, go_sem]
   simp only [DetT, applyV, Act.put, List.setIfInBounds_toArray, List.set_cons_zero, List.set_cons_succ]
   rw [q3]
   have hb6 := hb0.kb hkb6 (fun j C T fz hq hb => by rcases hty j C T fz hq hb with rfl | rfl <;> exact ⟨by decide, by decide⟩)
   have HR6 := Lib.hid hr6
   have HJ6 := Lib.hid hj6
   have HB6 := Lib.hid hb6
   clear hj0 hr0 hb0 hk0 ht0 hkb5 hkb6 hj6 hty kcw0 kcw1 kcw2 kcw3 hr6 brw0 brw1 hb6 q0 q1 q2 q3 hrun hext hsz HJ2 HR2 HBR
   obtain ⟨A6, n6, c6, w6, hrun6, hkb7, hty7, hj7⟩ := HJ6.out.app (by rw [HW1.out, World.size_alloc]; have := HX.out.size; omega) HBL1.out HB6.out (by have := HACC.out; have := HRL.out; omega) 47
   have hr7 := row_keptT HR6.out hkb7 (fun j C T fz hq hb => by rw [hty7 j C T fz hq hb]; decide)
   have HR7 := Lib.hid hr7
   have HJ7 := Lib.hid hj7
   have HRUN6 := Lib.hid hrun6
   clear hkb7 hty7 hj7 hr7 hrun6 HJ6 HR6 HB6
   go_wp2_with (first
    | (at_builtin; refine wpList_append_run rfl (.tmp 107) (.tmp 108) 47 rfl rfl rfl HRUN6.out ?_)
    | fail)
   go_roundw
   case rel => exact ⟨k2, ss ++ [⟨n, rows.length, kb⟩], acc ++ rows, _, s', d', by have := HK2L.out; omega, (by rw [HK2.out]; go_num), HR7.out, .inl ⟨.inl HK2L.out, rfl, rfl, by rw [List.length_append, HSS.out, HK2.out]; rfl, by rw [List.length_append, HK2.out]; have := HACC.out; have := HRL.out; omega, HQ.out, HJ7.out⟩⟩
   case measure =>
    have h1 := HK2.out
    have h2 := HK2L.out
    simp [intOf]
    omega
end Go.Proofs.YtagghghoimpofaaGreatDoor
