/-
  Layer 19: capture.From.
-/
import Derived.Test.YtacabcpjaadijaaDoorCapOwnJ
namespace Go.Proofs.YtacabcpjaadijaaDoor
open Go Go.RowKit Go.Shelf Mono Num
attribute [local go_sem] Oper.semAt_some
set_option linter.unusedVariables false
set_option linter.unusedSimpArgs false
set_option maxRecDepth 100000

theorem row_sliceN {W : World} {z k sz : Nat} {e : TypeId} {v : Value} {xs : List Value} (h : W.ownsRow z e sz v k xs) : ∃ A c, v = .slice A k c := by
  rcases h.2 with ⟨rfl, h0⟩ | ⟨g, cap, cur, rfl, _⟩
  · exact ⟨none, 0, by rw [h0]⟩
  · exact ⟨_, _, rfl⟩
def FromA (l : List (Ch × Value)) (q : Ch × Value → Bool) (z : Nat) (tm : Nat → Value → Array Value) (pre : List (Ch × Value)) (x : Ch × Value) (a' : Act) (W : World) : Prop :=
  (∃ rest, l.filter q = pre ++ x :: rest) ∧ OwnA l z tm pre x a' W
theorem fromA_own (l : List (Ch × Value)) (q : Ch × Value → Bool) (z : Nat) (tm : Nat → Value → Array Value) (pre : List (Ch × Value)) (x : Ch × Value) (a' : Act) : OwnFrom z (fun (_ : Unit) W => FromA l q z tm pre x a' W) :=
  fun u X Y row h hg hr => ⟨h.1, ownA_own l z tm pre x a' u X Y row h.2 hg hr⟩
def FromI (w : World) (z bo : Nat) (B : List (Nat × TypeId × Value)) (m : Int) (pre : List (Ch × Value)) (W : World) : Prop := OwnI w z bo B pre W ∧ pre.length ≤ m.toNat
/-- The loop was left: as many as were asked for are there. -/
def FromX (w : World) (z bo : Nat) (B : List (Nat × TypeId × Value)) (m : Int) (ys : List (Ch × Value)) (c : Code) (W : World) : Prop := c = .exit 0 ∧ ∃ vo outs, OwnJ w z bo B vo outs W ∧ outs.map (·.1) = (ys.map (·.1)).take m.toNat
theorem fromI_own {w : World} {z bo : Nat} {B : List (Nat × TypeId × Value)} {m : Int} (ha : OwnAt w z bo B) : OwnFrom z (FromI w z bo B m) := fun pre X Y row h hg hr => ⟨ownI_own ha pre X Y row h.1 hg hr, h.2⟩
theorem fromX_own {w : World} {z bo : Nat} {B : List (Nat × TypeId × Value)} {m : Int} {ys : List (Ch × Value)} (ha : OwnAt w z bo B) (c : Code) : OwnFrom z (fun (_ : List (Ch × Value)) W => FromX w z bo B m ys c W) := by
  rintro _ X Y row ⟨hc, vo, outs, hj, hm⟩ hg hr
  exact ⟨hc, vo, outs, hj.kept ha hg hr, hm⟩

set_option maxRecDepth 100000 in
set_option maxHeartbeats 4000000 in
theorem capFrom_any (u m : Int) (v : Value) (l : List (Ch × Value)) (w : World) (hs : Cs w v l) (hl : l.length ≤ 100000) (hw : ∀ x ∈ l, x.1.writes.length ≤ 100000) :
    Calls Tryd.prog 24 #[v, .int .i64 u, .int .i64 m] w fun e w' => ∃ r outs, e = .returned r ∧ Cs w' r outs ∧ outs.map (·.1) = ((l.filter (fun x => decide (u < x.1.seq))).map (·.1)).take m.toNat ∧ Ext w w' := by
  obtain ⟨A, c, rfl, _⟩ := hs.at_
  obtain ⟨i0, hi0, hz0, hz1, hz2⟩ := info_parts infoCh
  refine (callsIn_wide (n := 5)).1 ?_
  refine callsIn_of_wp_marks Tryd.func24 rfl trivial ?_ rfl
  simp only [Tryd.ntmps24, List.size_toArray, List.length_cons, List.length_nil, Nat.reduceAdd, Nat.reduceSub, Array.replicate_succ, Array.replicate_zero, List.push_toArray, List.append_toArray, List.nil_append, List.cons_append]
  have hmf : ∀ (fn : Fn) (first cap : Array Value) (w : World), (Instr.makeFunc fn first cap).run Tryd.prog w = .ok (.func fn first cap) w := fun _ _ _ _ => rfl
  gi_wp2
  refine ⟨trivial, (callsIn_wide.2 (some_any A l.length c 45 w.heap.size _)).mono ?_⟩
  rintro e w1 ⟨rfl, rfl⟩
  gi_wp2
  try simp only [World.size_alloc]
  obtain ⟨W0, hW0⟩ : ∃ W0, (((((w.alloc (.cells #[.int .i64 u] 3)).alloc (.cells #[.int .i64 m] 3)).alloc (.cells #[.slice none 0 0] 22)).alloc (.cells #[.slice A l.length c] 22)).alloc (.cells #[.func (.func 45) #[] #[.pointer (some ⟨w.heap.size, 0, none⟩)]] 72)) = W0 := ⟨_, rfl⟩
  have hx : Ext w W0 := by rw [← hW0]; exact Ext.trans (Ext.trans (Ext.trans (Ext.trans (ext_alloc _ _) (ext_alloc _ _)) (ext_alloc _ _)) (ext_alloc _ _)) (ext_alloc _ _)
  have hsz : W0.heap.size = w.heap.size + 1 + 1 + 1 + 1 + 1 := by rw [← hW0]; simp
  have b1 : Boxed W0 (w.heap.size) 3 (.int .i64 u) := by rw [← hW0]; have := ((((Boxed.new w 3 (.int .i64 u)).alloc (.cells #[.int .i64 m] 3)).alloc (.cells #[.slice none 0 0] 22)).alloc (.cells #[.slice A l.length c] 22)).alloc (.cells #[.func (.func 45) #[] #[.pointer (some ⟨w.heap.size, 0, none⟩)]] 72); simpa using this
  have bm : Boxed W0 (w.heap.size + 1) 3 (.int .i64 m) := by rw [← hW0]; have := (((Boxed.new (w.alloc (.cells #[.int .i64 u] 3)) 3 (.int .i64 m)).alloc (.cells #[.slice none 0 0] 22)).alloc (.cells #[.slice A l.length c] 22)).alloc (.cells #[.func (.func 45) #[] #[.pointer (some ⟨w.heap.size, 0, none⟩)]] 72); simpa using this
  have b2 : Boxed W0 (w.heap.size + 1 + 1) 22 (.slice none 0 0) := by rw [← hW0]; have := ((Boxed.new ((w.alloc (.cells #[.int .i64 u] 3)).alloc (.cells #[.int .i64 m] 3)) 22 (.slice none 0 0)).alloc (.cells #[.slice A l.length c] 22)).alloc (.cells #[.func (.func 45) #[] #[.pointer (some ⟨w.heap.size, 0, none⟩)]] 72); simpa using this
  have b3 : Boxed W0 (w.heap.size + 1 + 1 + 1) 22 (.slice A l.length c) := by rw [← hW0]; have := (Boxed.new (((w.alloc (.cells #[.int .i64 u] 3)).alloc (.cells #[.int .i64 m] 3)).alloc (.cells #[.slice none 0 0] 22)) 22 (.slice A l.length c)).alloc (.cells #[.func (.func 45) #[] #[.pointer (some ⟨w.heap.size, 0, none⟩)]] 72); simpa using this
  have b4 : Boxed W0 (w.heap.size + 1 + 1 + 1 + 1) 72 (.func (.func 45) #[] #[.pointer (some ⟨w.heap.size, 0, none⟩)]) := by rw [← hW0]; have := Boxed.new ((((w.alloc (.cells #[.int .i64 u] 3)).alloc (.cells #[.int .i64 m] 3)).alloc (.cells #[.slice none 0 0] 22)).alloc (.cells #[.slice A l.length c] 22)) 72 (.func (.func 45) #[] #[.pointer (some ⟨w.heap.size, 0, none⟩)]); simpa using this
  rw [hW0]
  clear hW0
  obtain ⟨BB, hBB⟩ : ∃ BB : List (Nat × TypeId × Value), BB = [(w.heap.size, 3, .int .i64 u), (w.heap.size + 1, 3, .int .i64 m), (w.heap.size + 1 + 1 + 1, 22, .slice A l.length c), (w.heap.size + 1 + 1 + 1 + 1, 72, .func (.func 45) #[] #[.pointer (some ⟨w.heap.size, 0, none⟩)])] := ⟨_, rfl⟩
  have hat : OwnAt w W0.heap.size (w.heap.size + 1 + 1) BB := ⟨hx.size, by omega, by omega, by
    rw [hBB]
    intro p hp
    simp only [List.mem_cons, List.not_mem_nil, or_false] at hp
    rcases hp with rfl | rfl | rfl | rfl <;> dsimp only <;> omega⟩
  have hBT : ∀ p ∈ BB, p.2.1 ≠ 32 := by
    rw [hBB]
    intro p hp
    simp only [List.mem_cons, List.not_mem_nil, or_false] at hp
    rcases hp with rfl | rfl | rfl | rfl
    · show (3 : Nat) ≠ 32; decide
    · show (3 : Nat) ≠ 32; decide
    · show (22 : Nat) ≠ 32; decide
    · show (72 : Nat) ≠ 32; decide
  have hB0 : ∀ vo outs W, OwnJ w W0.heap.size (w.heap.size + 1 + 1) BB vo outs W → Boxed W w.heap.size 3 (.int .i64 u) := fun vo outs W h => h.keep (_, _, _) (by rw [hBB]; simp)
  have hBm : ∀ vo outs W, OwnJ w W0.heap.size (w.heap.size + 1 + 1) BB vo outs W → Boxed W (w.heap.size + 1) 3 (.int .i64 m) := fun vo outs W h => h.keep (_, _, _) (by rw [hBB]; simp)
  have hB1 : ∀ vo outs W, OwnJ w W0.heap.size (w.heap.size + 1 + 1) BB vo outs W → Boxed W (w.heap.size + 1 + 1 + 1) 22 (.slice A l.length c) := fun vo outs W h => h.keep (_, _, _) (by rw [hBB]; simp)
  have hB2 : ∀ vo outs W, OwnJ w W0.heap.size (w.heap.size + 1 + 1) BB vo outs W → Boxed W (w.heap.size + 1 + 1 + 1 + 1) 72 (.func (.func 45) #[] #[.pointer (some ⟨w.heap.size, 0, none⟩)]) := fun vo outs W h => h.keep (_, _, _) (by rw [hBB]; simp)
  have hKp : ∀ vo outs vo' outs' W W', OwnJ w W0.heap.size (w.heap.size + 1 + 1) BB vo outs W → OwnJ w W0.heap.size (w.heap.size + 1 + 1) BB vo' outs' W' → Below w.heap.size W W' → KpC w.heap.size (w.heap.size + 1 + 1 + 1) (w.heap.size + 1 + 1 + 1 + 1) w.heap.size W W' := fun vo outs vo' outs' W W' h k hb =>
    ⟨hb, (show _ = _ from hB1 _ _ _ k).trans (show _ = _ from hB1 _ _ _ h).symm, (show _ = _ from hB2 _ _ _ k).trans (show _ = _ from hB2 _ _ _ h).symm, (show _ = _ from hB0 _ _ _ k).trans (show _ = _ from hB0 _ _ _ h).symm⟩
  have hin : OwnJ w W0.heap.size (w.heap.size + 1 + 1) BB (.slice none 0 0) [] W0 := ⟨hx, Nat.le_refl _, by
    rw [hBB]
    intro p hp
    simp only [List.mem_cons, List.not_mem_nil, or_false] at hp
    rcases hp with rfl | rfl | rfl | rfl <;> assumption, b2, World.ownsRow_nil _ _ _ _, fun x h => absurd h (by simp)⟩
  clear hBB
  have HL := Lib.hid hl
  have HW := Lib.hid hw
  have HB0 := Lib.hid hB0
  have HB1 := Lib.hid hB1
  have HBM := Lib.hid hBm
  have HB2 := Lib.hid hB2
  have HKP := Lib.hid hKp
  have HAT := Lib.hid hat
  have HBT := Lib.hid hBT
  clear hw hBm hB0 hB1 hB2 hKp hat hBT
  refine wpIn_rangeW rfl (by omega) (gf := 46) (lb := #[.pointer (some ⟨w.heap.size + 1 + 1 + 1, 0, none⟩), .pointer (some ⟨w.heap.size + 1 + 1 + 1 + 1, 0, none⟩)]) rfl trivial (enters_of Tryd.func46 (by kernel_rfl) rfl)
    (someFrom_any 4 (by omega) w A c l u hs (w.heap.size + 1 + 1 + 1) (w.heap.size + 1 + 1 + 1 + 1) w.heap.size W0 hx b3.cell b4.cell b1.cell b3.lt b4.lt b1.lt) (fun h k => h.trans k) ?kb (Below.refl _ _) (fun _ => rfl) (fun _ _ _ _ h _ _ => h) (fun _ _ _ _ _ _ _ => trivial)
    (FromI w W0.heap.size (w.heap.size + 1 + 1) BB m) (fun c _ W => FromX w W0.heap.size (w.heap.size + 1 + 1) BB m (l.filter (fun x => decide (u < x.1.seq))) c W) (fromI_own HAT.out) (fun c => fromX_own HAT.out c) ⟨⟨_, _, hin, rfl⟩, Nat.zero_le _⟩
    (FromA l (fun x => decide (u < x.1.seq)) W0.heap.size (fun Bx xv => #[.slice A l.length c, .int .i64 u, .int .i64 m, undef, .pointer (some ⟨w.heap.size, 0, none⟩), .pointer (some ⟨w.heap.size + 1, 0, none⟩), .pointer (some ⟨w.heap.size + 1 + 1, 0, none⟩), .pointer (some ⟨Bx, 0, none⟩), .slice A l.length c, (.func (.func 45) #[] #[.pointer (some ⟨w.heap.size, 0, none⟩)]), (.func (.func 46) #[] #[.pointer (some ⟨w.heap.size + 1 + 1 + 1, 0, none⟩), .pointer (some ⟨w.heap.size + 1 + 1 + 1 + 1, 0, none⟩)]), xv, undef, undef, undef, undef, undef, undef, undef, undef, undef, undef]))
    (fromA_own _ _ _ _) ?assign ?body ?done ?stop
  case kb =>
    intro W k o o' hk ho hc _
    have hlt := (Array.getElem?_eq_some_iff.1 ho).1
    refine ⟨(Below.refl _ W).grown (grownBy_putObj' W k o') (by omega) (fun j e => by cases e; omega), World.putObj_heap_other (by omega), World.putObj_heap_other (by omega), World.putObj_heap_other (by omega)⟩
  case assign =>
    rintro k pre ⟨⟨site, seq, sn, ss, va, vb, ws⟩, vw⟩ W K ⟨⟨vo, outs, hj, hm⟩, hpl⟩ ⟨rest, hR⟩ hK
    have hlp := filter_pre hR
    have hwv : Ws w vw ws := (hs.2 _ hlp.1).1
    obtain ⟨Aw, cw, rfl, _⟩ := hwv.at_
    unfold chV at hK ⊢
    dsimp only at hK ⊢
    gi_wp2
    have hj2 := hj.kept HAT.out (World.grownBy_alloc W (.cells #[.int .i64 site, .int .i64 seq, .int .i64 sn, .int .i64 ss, .int .i64 va, .int .i64 vb, .slice Aw ws.length cw] 32) none) (fun r e => by cases e)
    refine hK _ _ ?_ ?_ ?_ ⟨⟨rest, hR⟩, hlp, W.heap.size, hj.size, ?_, rfl⟩
    · exact (KeepsOthers.alloc _ _).from _
    · exact HKP.out _ _ _ _ _ _ hj hj2 (Below.alloc (Below.refl _ _) hj.ext.size _)
    · exact ⟨⟨vo, outs, hj2, hm⟩, hpl⟩
    · exact World.alloc_heap_new _ _
  case body =>
    rintro k pre ⟨⟨site, seq, sn, ss, va, vb, ws⟩, vw⟩ a' W hk ⟨⟨vo, outs, hj, hm⟩, hpl⟩ ⟨⟨rest, hR⟩, ⟨hmem, hlp⟩, Bx, hzb, hbx, rfl⟩
    have hwl := HW.out _ hmem
    have HSZ := Lib.hid hsz
    clear hsz
    have hwv : Ws w vw ws := (hs.2 _ hmem).1
    obtain ⟨Aw, cw, rfl, _⟩ := hwv.at_
    have hol : outs.length ≤ 100000 := by
      have := congrArg List.length hm
      simp only [List.length_map] at this
      omega
    obtain ⟨Ao, co, rfl⟩ := row_sliceN hj.row
    have hplen : pre.length = outs.length := by
      have := congrArg List.length hm
      simpa using this.symm
    have cO := hj.out.cell
    have cM := (HBM.out _ _ _ hj).cell
    have HJ := Lib.hid (show OSt w W W0.heap.size (w.heap.size + 1 + 1) BB (.slice Ao outs.length co) outs Bx _ W from ⟨hj, KeepsFrom.refl _ _, Below.refl _ _, hbx⟩)
    have HM := Lib.hid hm
    have HJ0 := Lib.hid hj
    clear hj hm hbx
    unfold chV
    dsimp only at HJ hwl ⊢
    by_cases hge : m ≤ (outs.length : Int)
    · gi_wp2
      refine ⟨KeepsFrom.refl _ _, HKP.out _ _ _ _ _ _ HJ0.out HJ0.out (Below.refl _ _), rfl, _, _, HJ0.out, ?_⟩
      have hmn : m.toNat = (pre.map (·.1)).length := by rw [List.length_map]; omega
      try rw [hR]
      rw [hmn]
      refine HM.out.trans ?_
      simp
    gi_wp2
    refine wpIn_region_chain [2, 3, 4, 5] (fun k => if k = 0 then 2 else 0) (fun k => if k = 0 then .slice Ao outs.length co else chV ⟨site, seq, sn, ss, va, vb, ws⟩ (.slice Aw ws.length cw))
      (OPh w W W0.heap.size (w.heap.size + 1 + 1) BB (.slice Ao outs.length co) outs Bx (Obj.cells (chC ⟨site, seq, sn, ss, va, vb, ws⟩ (.slice Aw ws.length cw)).toArray 32) ⟨site, seq, sn, ss, va, vb, ws⟩) (by kernel_rfl) (by kernel_rfl) (HJ.out.drew HAT.out) ?_ ?_ ?_
    · intro o ho c hc
      simp only [List.mem_cons, List.not_mem_nil, or_false] at ho
      rcases ho with rfl | rfl | rfl | rfl | rfl | rfl <;> cases hc
    · rintro ⟨a, w', h⟩
      exact h
    refine telec_side (by decide) ?_ ?_
    · rintro ρ vs w' hv hg ⟨h4, -⟩
      have e4 : ρ 6 = .pointer (some ⟨w.heap.size + 1 + 1, 0, none⟩) := h4
      have cc := (OPh.st HAT.out hv hg).j.out.cell
      simp [execOp, evR, e4, cc, go_sem]
    refine telec_side (by decide) ?_ ?_
    · rintro ρ vs w' hv hg ⟨h5, -⟩
      have e5 : ρ 7 = .pointer (some ⟨Bx, 0, none⟩) := h5
      have hb := (OPh.st HAT.out (Nat.le_trans hv (by decide)) hg).bx
      have bl : Blk w' Bx (chC ⟨site, seq, sn, ss, va, vb, ws⟩ (.slice Aw ws.length cw)) := ⟨_, hb⟩
      have c0 := bl.cell (i := 0) rfl
      have c1 := bl.cell (i := 1) rfl
      have c2 := bl.cell (i := 2) rfl
      have c3 := bl.cell (i := 3) rfl
      have c4 := bl.cell (i := 4) rfl
      have c5 := bl.cell (i := 5) rfl
      have c6 := bl.cell (i := 6) rfl
      simp [execOp, evR, e5, c0, c1, c2, c3, c4, c5, c6, chV, go_sem]
    refine telec_chain (by decide) ?_ ?_
    · rintro ρ vs w' hv hg ⟨h11, -⟩
      have e11 : ρ 17 = chV ⟨site, seq, sn, ss, va, vb, ws⟩ (.slice Aw ws.length cw) := h11
      obtain rfl := List.eq_nil_of_length_eq_zero hv
      have hg : OSt _ _ _ _ _ _ _ _ _ w' := hg
      rw [run_call_func rfl Tryd.func28 (by kernel_rfl)]
      simp only [evR, List.map_toArray, List.map_cons, List.map_nil, e11]
      refine (own_any site seq sn ss va vb ws _ w' ((hs.2 _ hmem).1.ext hg.j.ext) hwl).mono ?_
      rintro en w9 ⟨v', rfl, hwo, he⟩
      obtain ⟨A', n', c', rfl⟩ := row_slice hwo.1
      exact ⟨_, rfl, A', n', c', rfl, hwo, hg.ext HAT.out he⟩
    refine telec_chain (by decide) ?_ ?_
    · rintro ρ vs w' hv hg ⟨h12, -⟩
      have e12 : ρ 18 = vs.getD 0 undef := h12
      obtain ⟨v1, rfl⟩ : ∃ v1, vs = [v1] := by match vs, hv with | [v1], _ => exact ⟨v1, rfl⟩
      obtain ⟨A', n', c', rfl, hwo, hg⟩ := hg
      replace e12 : ρ 18 = chV ⟨site, seq, sn, ss, va, vb, ws⟩ (.slice A' n' c') := e12
      unfold chV at e12
      refine chainUpon_of (r := .ok (.value (.slice (some ⟨w'.heap.size, 0, none⟩) 1 1)) (w'.alloc (.cells (chC ⟨site, seq, sn, ss, va, vb, ws⟩ (.slice A' n' c')).toArray 32))) (by simp [execOp, evR, e12, chC, go_sem]) ?_
      exact ⟨A', n', c', w', rfl, hwo, hg, rfl⟩
    refine telec_chain (by decide) ?_ ?_
    · rintro ρ vs w' hv hg ⟨h10, h13, -⟩
      have e10 : ρ 16 = .slice Ao outs.length co := h10
      have e13 : ρ 19 = vs.getD 1 undef := h13
      obtain ⟨v1, v2, rfl⟩ : ∃ v1 v2, vs = [v1, v2] := by match vs, hv with | [v1, v2], _ => exact ⟨v1, v2, rfl⟩
      obtain ⟨A', n', c', W9, rfl, hwo, hg, rfl⟩ := hg
      replace e13 : ρ 19 = .slice (some ⟨W9.heap.size, 0, none⟩) 1 1 := e13
      have hgz := hg.j.size
      obtain ⟨v', w10, hrun, hown, hgrow, _, _⟩ := run_append_own_at (P := Tryd.prog) (W9.alloc (.cells (chC ⟨site, seq, sn, ss, va, vb, ws⟩ (.slice A' n' c')).toArray 32)) W0.heap.size 22 22 32 i0 _ 7 72 Tryd.underlying22 hi0 hz0 hz1 hz2 rfl (by decide) _ outs.length (chsC outs) (hg.j.row.alloc _) ⟨W9.heap.size, 0, none⟩ 1 1 (chC ⟨site, seq, sn, ss, va, vb, ws⟩ (.slice A' n' c')) rfl (by
        intro j u hu
        rw [add_at, Nat.zero_add]
        exact (Blk.new W9 (chC ⟨site, seq, sn, ss, va, vb, ws⟩ (.slice A' n' c')).toArray 32).cell (i := j) hu) (ch_one _ _ _ _ _ _ _ _ _ _) (by unfold maxLen; omega) (by omega) (by simp; omega)
      obtain ⟨h1, h2, h3, h4⟩ := hg.app HAT.out HBT.out hwo hown hgrow
      rw [exec_appendC rfl e10 e13, hrun]
      exact ⟨_, h1, h2, h3, h4⟩
    refine telec_chain (by decide) ?_ ?_
    · rintro ρ vs w' hv hg ⟨h4, h14, -⟩
      have e4 : ρ 6 = .pointer (some ⟨w.heap.size + 1 + 1, 0, none⟩) := h4
      have e14 : ρ 20 = vs.getD 2 undef := h14
      obtain ⟨v1, v2, v3, rfl⟩ : ∃ v1 v2 v3, vs = [v1, v2, v3] := by match vs, hv with | [v1, v2, v3], _ => exact ⟨v1, v2, v3, rfl⟩
      obtain ⟨vv, hbk, hj2, hk2, hl2⟩ := hg
      replace e14 : ρ 20 = v3 := e14
      obtain ⟨A3, n3, c3, rfl⟩ := row_slice hj2.row
      have d6 := hbk.cell
      have dz6 := hbk.frozen
      refine chainUpon_of (r := .ok .skip (w'.setCell ⟨w.heap.size + 1 + 1, 0, none⟩ (.slice A3 n3 c3))) (by simp [execOp, evR, e4, e14, d6, dz6, go_sem]) ?_
      exact ⟨_, _, hj2, hk2, hl2⟩
    refine telec_nil ?_
    rintro ρ vs w' hv hg -
    obtain ⟨v1, v2, v3, v4, rfl⟩ : ∃ v1 v2 v3 v4, vs = [v1, v2, v3, v4] := by match vs, hv with | [v1, v2, v3, v4], _ => exact ⟨v1, v2, v3, v4, rfl⟩
    obtain ⟨vv, v3', hj3, hk3, hl3⟩ := hg
    simp only [puts, Act.put, List.setIfInBounds_toArray, List.set_cons_zero, List.set_cons_succ]
    gi_wp2
    exact ⟨hk3, HKP.out _ _ _ _ _ _ HJ0.out hj3 hl3, ⟨_, _, hj3, by simp [HM.out]⟩, by simp; omega⟩
  case done =>
    rintro D xs W hD rfl ⟨⟨vo, outs, hj, hm⟩, hpl⟩ hdef
    replace hm := hm.trans (List.take_of_length_le (show ((l.filter (fun x => decide (u < x.1.seq))).map (·.1)).length ≤ m.toNat by rw [List.length_map]; exact hpl)).symm
    have hvo := hj.out
    have co := hvo.cell
    have fo := hvo.frozen
    have HJ := Lib.hid hj
    have HM := Lib.hid hm
    obtain ⟨Ao, no, co', rfl⟩ := row_slice hj.row
    clear hj hm
    gi_wp2
    simp only [setCell_sameC hvo]
    refine ⟨by simp, .inl ⟨_, _, rfl, run_takeDeferred (w := W) hdef, ?_⟩⟩
    have hj3 := HJ.out.kept HAT.out (grownBy_putObj' W D (.deferred none)) (fun r e => by cases e; exact ⟨hD, _, hdef, rfl⟩)
    refine ⟨.slice Ao no co', ?_, .slice Ao no co', rfl, outs, ⟨fl_of_row hj3.row, fun x hx => ⟨(hj3.own x hx).ws, ?_⟩⟩, HM.out, hj3.ext⟩
    · have k1 := hj3.out.cell
      simp [results, Tryd.results24, go_sem, k1]
    · have h1 : x.1 ∈ outs.map (·.1) := List.mem_map.2 ⟨x, hx, rfl⟩
      rw [HM.out] at h1
      obtain ⟨y, hy, he⟩ := List.mem_map.1 (List.mem_of_mem_take h1)
      rw [← he]
      exact (hs.2 y (List.mem_filter.1 hy).1).2
  case stop =>
    rintro D cc ys W hD _ ⟨rfl, vo, outs, hj, hm⟩ hdef
    have hvo := hj.out
    have co := hvo.cell
    have fo := hvo.frozen
    have HJ := Lib.hid hj
    have HM := Lib.hid hm
    obtain ⟨Ao, no, co', rfl⟩ := row_slice hj.row
    clear hj hm
    gi_wp2
    simp only [setCell_sameC hvo]
    refine ⟨by simp, .inl ⟨_, _, rfl, run_takeDeferred (w := W) hdef, ?_⟩⟩
    have hj3 := HJ.out.kept HAT.out (grownBy_putObj' W D (.deferred none)) (fun r e => by cases e; exact ⟨hD, _, hdef, rfl⟩)
    refine ⟨.slice Ao no co', ?_, .slice Ao no co', rfl, outs, ⟨fl_of_row hj3.row, fun x hx => ⟨(hj3.own x hx).ws, ?_⟩⟩, HM.out, hj3.ext⟩
    · have k1 := hj3.out.cell
      simp [results, Tryd.results24, go_sem, k1]
    · have h1 : x.1 ∈ outs.map (·.1) := List.mem_map.2 ⟨x, hx, rfl⟩
      rw [HM.out] at h1
      obtain ⟨y, hy, he⟩ := List.mem_map.1 (List.mem_of_mem_take h1)
      rw [← he]
      exact (hs.2 y (List.mem_filter.1 hy).1).2
end Go.Proofs.YtacabcpjaadijaaDoor
