/-
 Layer 16: what acts on a log leave as it was.
-/
import Derived.Test.YtagghghoimpofaaGreatDoorWalStep
import Derived.Test.YtagghghoimpofaaGreatDoorFrameWrap
namespace Go.Proofs.YtagghghoimpofaaGreatDoor
open Go Go.RowKit Mono
set_option linter.unusedVariables false
set_option linter.unusedSimpArgs false
set_option maxRecDepth 100000

theorem Dk.SmallC.more {c c' : Nat} {d : Dk} (h : d.SmallC c) (hc : c ≤ c') : d.SmallC c' := ⟨Nat.le_trans h.cnt hc, h.plan⟩
theorem wSync_d (d : Dk) (l : Lg) : (wSync d l).1.1 = d ∨ (wSync d l).1.1 = (dSync d (wname l.last.frm)).1 := by
 unfold wSync
 split
 ·exact .inl rfl
 ·unfold wSync1
  split
  ·exact .inr rfl
  ·exact .inr rfl
theorem wSync_segs (d : Dk) (l : Lg) : (wSync d l).1.2.segs = l.segs ∧ (wSync d l).1.2.size = l.size ∧ (wSync d l).1.2.fails = l.fails := by
 unfold wSync
 split
 ·exact ⟨rfl, rfl, rfl⟩
 ·unfold wSync1
  split
  ·exact ⟨rfl, rfl, rfl⟩
  ·exact ⟨rfl, rfl, rfl⟩
theorem wSync_last (d : Dk) (l : Lg) : (wSync d l).1.2.last = l.last ∧ (wSync d l).1.2.next = l.next := by
 have h := (wSync_segs d l).1
 have h1 : (wSync d l).1.2.last = l.last := by unfold Lg.last; rw [h]
 refine ⟨h1, ?_⟩
 unfold Lg.next
 rw [h1]
theorem wSync_ok {d : Dk} (h : d.Ok) (l : Lg) : (wSync d l).1.1.Ok := by
 rcases wSync_d d l with e | e
 ·rw [e]; exact h
 ·rw [e]; exact dSync_ok h _
theorem wSync_small {c : Nat} {d : Dk} (h : d.SmallC c) (l : Lg) : (wSync d l).1.1.SmallC (c + 1) := by
 rcases wSync_d d l with e | e
 ·rw [e]; exact h.more (Nat.le_succ _)
 ·rw [e]; exact h.grow (dSync_grow _ _)
theorem wRoll_ok {d : Dk} (h : d.Ok) (l : Lg) : (wRoll d l).1.1.Ok := by
 unfold wRoll
 split
 ·exact wSync_ok h l
 ·unfold wRoll1
  split
  ·exact dMake_ok (wSync_ok h l) _
  ·exact dMake_ok (wSync_ok h l) _
theorem wRoll_small {c : Nat} {d : Dk} (h : d.SmallC c) (l : Lg) : (wRoll d l).1.1.SmallC (c + 2) := by
 unfold wRoll
 split
 ·exact (wSync_small h l).more (Nat.le_succ _)
 ·unfold wRoll1
  split
  ·exact (wSync_small h l).grow (dMake_grow _ _)
  ·exact (wSync_small h l).grow (dMake_grow _ _)
theorem Lg.last_snoc {l : Lg} (ss : List WSeg) (s : WSeg) (h : l.segs = ss ++ [s]) : l.last = s := by unfold Lg.last; rw [h, List.getLastD_concat]
/-- Behind a roll that was done, the last segment is new and empty, and the number of the next record is the same. -/
theorem wRoll_done (d : Dk) (l : Lg) (h : (wRoll d l).2 = 0) : (wRoll d l).1.2.segs = l.segs ++ [⟨l.next, 0, 0⟩] ∧ (wRoll d l).1.2.size = l.size ∧ (wRoll d l).1.2.fails = l.fails := by
 obtain ⟨h1, h2, h3⟩ := wSync_segs d l
 have h4 := (wSync_last d l).2
 unfold wRoll at h ⊢
 split at h
 ·rename_i hne
  exact absurd h hne
 ·rename_i hne
  rw [if_neg hne]
  unfold wRoll1 at h ⊢
  split at h
  ·rename_i hne2
   exact absurd h hne2
  ·rename_i hne2
   rw [if_neg hne2]
   exact ⟨by rw [← h4, ← h1], h2, h3⟩
theorem segC (s : WSeg) : s.cells = [.int .i64 (s.frm : Int), .int .i64 (s.count : Int), .int .i64 (s.bytes : Int)] := rfl
theorem infoSeg : (Tryz.prog.info? 79).map (fun i => (i.zero, i.size, i.bytes)) = some (some (.agg #[.int .i64 0, .int .i64 0, .int .i64 0]), 3, 24) := by kernel_rfl
/-- append, where what it does is known. -/
theorem wpList_append_run {P : Program} {w w' : World} {ops : Array Oper} {rest : List Oper} {o : Oper} {a : Act} {Q : Exit → Act → World → Prop} (hgd : o.guard = none) (s x : Operand) (t : TypeId)
  (ho : o.op = .call { callee := .builtin .append, args := #[s, x], argTypes := #[t, t] }) {v sv v' : Value} (hv : a.eval s = v) (hx : a.eval x = sv) (hrun : (Builtin.append_ #[t, t] o.type #[v, sv]).run P w = .ok v' w')
  (h : wpList P ops Q rest (a.put o.dst v') w') : wpList P ops Q (o :: rest) a w := by
 refine wpList_plain hgd fun _ hK => ?_
 unfold Oper.wp execOp
 simp only [ho, resolve, invoke, builtin, Sem.run_bind, Sem.run_pure, Result.andThen_ok, List.map_toArray, List.map_cons, List.map_nil, hv, hx, hrun]
 exact hK _ _ h
/-- A segment is appended. -/
theorem seg_append {z bl bd g c : Nat} {W : World} {l : Lg} (h : LgM z W bl bd (.slice (some ⟨g, 0, none⟩) l.segs.length c) l) (hz : z ≤ W.heap.size) (hlen : l.segs.length ≤ 1000000000) (s : WSeg) (ty : TypeId) :
  ∃ g' cv' w', (Builtin.append_ #[71, 71] ty #[.slice (some ⟨g, 0, none⟩) l.segs.length c, .slice (some ⟨W.heap.size, 0, none⟩) 1 1]).run Tryz.prog (W.alloc (.cells #[.int .i64 (s.frm : Int), .int .i64 (s.count : Int), .int .i64 (s.bytes : Int)] 79)) = .ok (.slice (some ⟨g', 0, none⟩) (l.segs.length + 1) cv') w' ∧
   w'.ownsRow z 79 3 (.slice (some ⟨g', 0, none⟩) (l.segs.length + 1) cv') (l.segs ++ [s]).length (scells (l.segs ++ [s])) ∧ Kb (lall bl (.slice (some ⟨g, 0, none⟩) l.segs.length c)) W w' ∧ BlkT w' bl 75 (lstr (.slice (some ⟨g, 0, none⟩) l.segs.length c) bd l) ∧ ∀ j, lall bl (.slice (some ⟨g', 0, none⟩) (l.segs.length + 1) cv') j → lall bl (.slice (some ⟨g, 0, none⟩) l.segs.length c) j ∨ W.heap.size ≤ j := by
 obtain ⟨i0, hi, hz0, hz1, hz2⟩ := info_parts infoSeg
 have hb := Blk.new W #[.int .i64 (s.frm : Int), .int .i64 (s.count : Int), .int .i64 (s.bytes : Int)] 79
 obtain ⟨v', w', h1, h2, h3, -, h4⟩ := run_append_own_at (P := Tryz.prog) (W.alloc (.cells #[.int .i64 (s.frm : Int), .int .i64 (s.count : Int), .int .i64 (s.bytes : Int)] 79)) z 71 ty 79 i0 _ 3 24 Tryz.underlying71 hi hz0 hz1 hz2 rfl (by decide)
  _ l.segs.length (scells l.segs) (h.row.alloc _) ⟨W.heap.size, 0, none⟩ 1 1 s.cells rfl (fun j u hu => by rw [add_at, Nat.zero_add]; exact hb.cell hu) (by rw [segC]; simp [Value.oneCell']) (by unfold maxLen; omega) (by omega) (by rw [World.size_alloc]; omega)
 have hgr : Kb (fun k => k = g) (W.alloc (.cells #[.int .i64 (s.frm : Int), .int .i64 (s.count : Int), .int .i64 (s.bytes : Int)] 79)) w' := Kb.grown h3 rfl
 have hkb : Kb (fun k => k = g) W w' := (Kb.of_ext (fp := fun k => k = g) (ext_alloc W _)).trans hgr (fun _ h => .inl h)
 obtain ⟨g', cv', rfl⟩ : ∃ g' cv', v' = .slice (some ⟨g', 0, none⟩) (l.segs.length + 1) cv' := by
  rcases h2.2 with ⟨_, hn⟩ | ⟨g', cap, cur, hv, _⟩
  ·omega
  ·exact ⟨g', cap, hv⟩
 refine ⟨g', cv', w', h1, ?_, hkb.mono (fun b hb => .inr (by rw [hb]; rfl)), h.str.kb hkb (fun e => h.ne e.symm), fun j hj => ?_⟩
 ·rw [List.length_append, List.length_singleton, scells_append, scells_one]
  exact h2
 ·rcases hj with hj | hj
  ·exact .inl (.inl hj)
  ·rcases h4 with h4 | h4
   ·rw [h4] at hj
    exact .inl (.inr hj)
   ·rw [h4] at hj
    injection hj with hj
    rw [World.size_alloc] at hj
    exact .inr (by omega)
end Go.Proofs.YtagghghoimpofaaGreatDoor

/-
 Layer 16: the program's log: roll, Append.
-/
namespace Go.Proofs.YtagghghoimpofaaGreatDoor
open Go Go.RowKit Mono
set_option linter.unusedVariables false
set_option linter.unusedSimpArgs false
set_option maxRecDepth 100000
set_option maxHeartbeats 4000000

theorem wRoll_any {W0 W : World} {bd bl : Nat} {fp : Nat → Prop} {d : Dk} {l : Lg} (h : DL W0.heap.size bd bl fp d l W) (hx : Ext W0 W) (hT : TbW W0) (hok : d.Ok) (hne : l.segs ≠ []) (hps : 1 ≤ l.next) (hnx : l.next ≤ 9000000000000000000) {c0 : Nat} (hsc : d.SmallC c0) (hc0 : c0 + 10 ≤ 1000000000) (hln : l.segs.length ≤ 1000000000) :
  Calls Tryz.prog 45 #[.pointer (some ⟨bl, 0, none⟩)] W fun e w' => e = .returned (.int .i64 ((wRoll d l).2 : Int)) ∧ DLS W0.heap.size bd bl fp (wRoll d l).1.1 (wRoll d l).1.2 W w' := by
 have HSY := Lib.hid (wSync_any h hx hT hok (hsc.small (by omega)) hne hps hnx)
 have HLOW := Lib.hid h.low
 have HX := Lib.hid hx
 have HT := Lib.hid hT
 have HOK := Lib.hid (wSync_ok hok l)
 have HSM := Lib.hid ((wSync_small hsc l).small (by omega))
 obtain ⟨hsg, hsz, hfl⟩ := wSync_segs d l
 obtain ⟨hla, hnxe⟩ := wSync_last d l
 have HNE := Lib.hid (show (wSync d l).1.2.segs ≠ [] by rw [hsg]; exact hne)
 have HLN := Lib.hid (show (wSync d l).1.2.segs.length ≤ 1000000000 by rw [hsg]; exact hln)
 have HNX := Lib.hid (show (wSync d l).1.2.next ≤ 9000000000000000000 by rw [hnxe]; exact hnx)
 have HNXE := Lib.hid hnxe
 have HU := Lib.hid (show wRoll d l = if (wSync d l).2 ≠ 0 then wSync d l else wRoll1 (wSync d l).1.1 (wSync d l).1.2 from rfl)
 clear h hx hT hok hsc hc0 hne hps hnx hln hsg hsz hfl hla hnxe
 generalize wSync d l = y at *
 obtain ⟨⟨d1, l1⟩, n⟩ := y
 dsimp only at *
 by_cases hn0 : n = 0
 rotate_left
 ·have hn1 : ¬ (n : Int) = 0 := by omega
  rw [if_pos hn0] at HU
  clear hn0
  go_enter Tryz.func45, Tryz.ntmps45
  go_wp2_with fail
  refine HSY.out.mono ?_
  rintro e w1 ⟨rfl, hs1⟩
  go_wp2_with fail
  go_ret
  rw [HU.out]
  exact ⟨rfl, hs1⟩
 subst hn0
 rw [if_neg (by simp)] at HU
 go_enter Tryz.func45, Tryz.ntmps45
 go_wp2_with fail
 refine HSY.out.mono ?_
 rintro e w1 ⟨rfl, hs1⟩
 obtain ⟨fp1, hd1, hk1⟩ := Cont.of_dls hs1
 obtain ⟨bm, pl, ms, v, hc, hk2⟩ := hd1.cx (hk1.low HX.out HLOW.out) HT.out
 have HK := Lib.hid (hk1.trans hk2)
 have HKN := Lib.hid (wnext_any hc.hl HNE.out HNX.out)
 have HC := Lib.hid hc
 clear hs1 hd1 hk1 hk2 hc HSY
 go_wp2_with fail
 refine HKN.out.mono ?_
 rintro e w2 ⟨rfl, hx2⟩
 replace HC := Lib.hid (HC.out.ext hx2)
 replace HK := Lib.hid (HK.out.ext hx2)
 clear HKN hx2
 go_wp2_with fail
 refine wp_region_tok [false, false, false, false, false, true, true, true, false] (Kb (FFd w2 bd bm pl d1 ms)) (fun c w => if c < 2 then DkM W0.heap.size w bd bm pl d1 ms else ∃ pl2 ms2, DkM W0.heap.size w bd bm pl2 (dMake d1 (wname (l1.next : Int))).1 ms2 ∧ ∀ k, dall bd bm pl2 (dMake d1 (wname (l1.next : Int))).1 ms2 k → FFd w2 bd bm pl d1 ms k) 3 (by kernel_rfl) (by kernel_rfl) (by kernel_rfl) (by kernel_rfl) (preKb' _) (Kb.of_ext (ext_drew w2)) (HC.out.hd.ext (ext_drew w2)) ?_
 refine tok_val rfl (.pointer (some ⟨bl, 0, none⟩)) (fun _ _ _ => rfl) ?_ ?_
 ·rintro ρ w' he ⟨h0, -⟩
  have e0 : ρ 0 = .pointer (some ⟨bl, 0, none⟩) := h0
  simp [execOp, evR, e0, go_sem]
 refine tok_val rfl (.pointer (some ⟨bl, 0, none⟩)) (fun _ _ _ => rfl) ?_ ?_
 ·rintro ρ w' he ⟨h15, -⟩
  have e15 : ρ 15 = .pointer (some ⟨bl, 0, none⟩) := h15
  simp [execOp, evR, e15, go_sem]
 refine tok_val rfl (.pointer (some ⟨bl, 1, none⟩)) (fun _ _ _ => rfl) ?_ ?_
 ·rintro ρ w' he ⟨h16, -⟩
  have e16 : ρ 16 = .pointer (some ⟨bl, 0, none⟩) := h16
  simp [execOp, evR, e16, go_sem]
 refine tok_val rfl (.pointer (some ⟨bd, 0, none⟩)) (fun _ _ _ => rfl) ?_ ?_
 ·rintro ρ w' he ⟨h17, -⟩
  have e17 : ρ 17 = .pointer (some ⟨bl, 1, none⟩) := h17
  have c := (HC.out.log he).str.blk.cell (i := 1) rfl
  simp [execOp, evR, e17, c, go_sem]
 refine tok_val rfl (.int .i64 (l1.next : Int)) (fun _ _ _ => rfl) ?_ ?_
 ·rintro ρ w' he ⟨h4, -⟩
  have e4 : ρ 4 = .int .i64 (l1.next : Int) := h4
  simp [execOp, evR, e4, go_sem]
 refine tok_call rfl rfl Tryz.func38 (by kernel_rfl) (fun v _ => v = .string ⟨(wname (l1.next : Int)).toArray⟩) (fun _ _ _ h _ => h) (fun _ _ _ => rfl) ?_ ?_
 ·rintro ρ w' he ht ⟨h19, -⟩
  have e19 : ρ 19 = .int .i64 (l1.next : Int) := h19
  simp only [evR, List.map_toArray, List.map_cons, List.map_nil, e19]
  have hp : DkM W0.heap.size w' bd bm pl d1 ms := ht
  refine (wName_any ((l1.next : Int) : Int) w' (HC.out.tb he)).mono ?_
  rintro e w2 ⟨rfl, hx2⟩
  exact ⟨_, rfl, Kb.of_ext hx2, rfl, hp.ext hx2⟩
 refine tok_call rfl rfl Tryz.func37 (by kernel_rfl) (fun v _ => v = .int .i64 ((dMake d1 (wname (l1.next : Int))).2 : Int)) (fun _ _ _ h _ => h) (fun _ _ _ => rfl) ?_ ?_
 ·rintro ρ w' he ht ⟨h18, h20, -⟩
  have e18 : ρ 18 = .pointer (some ⟨bd, 0, none⟩) := h18
  have e20 : ρ 20 = .string ⟨(wname (l1.next : Int)).toArray⟩ := h20
  simp only [evR, List.map_toArray, List.map_cons, List.map_nil, e18, e20]
  have hp : DkM W0.heap.size w' bd bm pl d1 ms := ht
  refine (make_any hp HOK.out HSM.out (HC.out.ext_ he).size (wname (l1.next : Int)) (Nat.le_trans (wname_len _) (by decide))).mono ?_
  rintro e w2 hq
  exact tok_disk he hq
 refine tok_call rfl rfl Tryz.func46 (by kernel_rfl) (fun v _ => v = .int .i64 (didE (dMake d1 (wname (l1.next : Int))).2 : Int)) (fun _ _ _ h _ => h) (fun _ _ _ => rfl) ?_ ?_
 ·rintro ρ w' he ht ⟨h21, -⟩
  have e21 : ρ 21 = .int .i64 ((dMake d1 (wname (l1.next : Int))).2 : Int) := h21
  simp only [evR, List.map_toArray, List.map_cons, List.map_nil, e21]
  have hp : ∃ pl2 ms2, DkM W0.heap.size w' bd bm pl2 (dMake d1 (wname (l1.next : Int))).1 ms2 ∧ ∀ k, dall bd bm pl2 (dMake d1 (wname (l1.next : Int))).1 ms2 k → FFd w2 bd bm pl d1 ms k := ht
  refine (did_any (dMake d1 (wname (l1.next : Int))).2 w').mono ?_
  rintro e w2 ⟨rfl, rfl⟩
  exact ⟨_, rfl, Kb.refl _ _, rfl, hp⟩
 refine tok_val rfl (.int .i64 (didE (dMake d1 (wname (l1.next : Int))).2 : Int)) (fun _ _ _ => rfl) ?_ ?_
 ·rintro ρ w' he ⟨h22, -⟩
  have e22 : ρ 22 = .int .i64 (didE (dMake d1 (wname (l1.next : Int))).2 : Int) := h22
  simp [execOp, evR, e22, go_sem]
 refine tok_nil ?_
 rintro ρ w' hle htk ⟨f5, f22, f21, f20, f19, f18, f17, f16, f15, -⟩ -
 replace f5 : ρ 5 = .int .i64 (didE (dMake d1 (wname (l1.next : Int))).2 : Int) := f5
 simp only [puts, Act.put, List.setIfInBounds_toArray, List.set_cons_zero, List.set_cons_succ]
 rw [f5]
 clear f5 f15 f16 f17 f18 f19 f20 f21 f22
 obtain ⟨pl2, ms2, hd2, hf2⟩ := (show ∃ pl2 ms2, DkM W0.heap.size w' bd bm pl2 (dMake d1 (wname (l1.next : Int))).1 ms2 ∧ ∀ k, dall bd bm pl2 (dMake d1 (wname (l1.next : Int))).1 ms2 k → FFd w2 bd bm pl d1 ms k from htk)
 obtain ⟨hc2, hs2⟩ := HC.out.disk hle hd2 hf2
 have HS2 := Lib.hid (HK.out.trans hs2)
 have HC2 := Lib.hid hc2
 obtain ⟨g, cv, rfl, -⟩ := hc2.hl.slice HNE.out
 have HW := Lib.hid (show wRoll1 d1 l1 = if didE (dMake d1 (wname (l1.next : Int))).2 ≠ 0 then (((dMake d1 (wname (l1.next : Int))).1, l1), didE (dMake d1 (wname (l1.next : Int))).2) else (((dMake d1 (wname (l1.next : Int))).1, { l1 with segs := l1.segs ++ [⟨l1.next, 0, 0⟩] }), 0) from rfl)
 clear hd2 hf2 hs2 hc2 hle htk
 obtain ⟨q, hq⟩ : ∃ q, q = l1.next := ⟨_, rfl⟩
 rw [← hq] at HW HS2 HC2
 rw [← hq]
 generalize dMake d1 (wname (q : Int)) = x at *
 generalize didE x.2 = m at *
 clear hq
 by_cases hm : m = 0
 rotate_left
 ·have hm1 : ¬ (m : Int) = 0 := by omega
  rw [if_pos hm] at HW
  clear hm
  go_wp2_with fail
  go_ret
  rw [HU.out, HW.out]
  exact ⟨rfl, HS2.out.done HC2.out.dl⟩
 ·subst hm
  rw [if_neg (by omega)] at HW
  have k0 := HC2.out.hl.str.blk.cell (i := 0) rfl
  obtain ⟨g', cv', w4, hrun, hrow, hkb, hstr, hall⟩ := seg_append HC2.out.hl HC2.out.hx.size HLN.out ⟨q, 0, 0⟩ 71
  have hsw := LgM.swap (l' := { l1 with segs := l1.segs ++ [⟨q, 0, 0⟩] }) hstr HC2.out.hl.zl hrow ⟨rfl, rfl, rfl⟩
  have k4 := hstr.blk.cell (i := 0) rfl
  have t4 := hstr.blk.thaw 0
  obtain ⟨hc4, hs4⟩ := HC2.out.put hsw (hkb.trans (Kb.set _ w4 bl 0 (.slice (some ⟨g', 0, none⟩) (l1.segs.length + 1) cv') (.inl rfl)) (fun _ h => .inl h)) hall
  have HS4 := Lib.hid (HS2.out.trans hs4)
  have HC4 := Lib.hid hc4
  have HRUN := Lib.hid hrun
  clear hrow hkb hstr hall hsw hc4 hs4 hrun
  go_wp2_with (at_builtin; refine wpList_append_run rfl (.tmp 31) (.tmp 34) 71 rfl rfl rfl HRUN.out ?_)
  go_ret
  rw [HU.out, HW.out]
  exact ⟨rfl, HS4.out.done HC4.out.dl⟩
end Go.Proofs.YtagghghoimpofaaGreatDoor
