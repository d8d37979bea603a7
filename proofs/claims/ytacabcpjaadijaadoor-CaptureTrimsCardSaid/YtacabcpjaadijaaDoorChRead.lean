/-
  The reader of changes: what its methods read, and what they leave.
-/
import Derived.Test.YtacabcpjaadijaaDoorChPut
import Derived.Test.YtacabcpjaadijaaDoorVecGetC
namespace Go.Proofs.YtacabcpjaadijaaDoor
open Go Go.RowKit Mono Num
set_option linter.unusedVariables false
set_option linter.unusedSimpArgs false
set_option maxRecDepth 10000

/-- 's[k:]' of bytes. -/
theorem exec_bs_from {w : World} {o : Oper} {f : Operand → Value} {x y : Operand} {A : Option Addr} {n c k : Nat} (hop : o.op = .slice 75 x (some y) none none)
    (hx : f x = .slice A n c) (hy : f y = .int .i64 (k : Int)) (hk : k ≤ n) (hn : n ≤ c) :
    (execOp f o).run Tryd.prog w = .ok (.value (.slice (if c = k then A else A.map (·.add k)) (n - k) (c - k))) w := by
  have h1 : (k : Int) ≤ (n : Int) := by omega
  have h0 : (0 : Int) ≤ (k : Int) := by omega
  have hu := Tryd.underlying75
  simp [execOp, hop, hx, hy, h0, h1, go_sem]
theorem gb_trans {w w1 w2 : World} {row : Option Nat} (h : w.grownBy w1 row) (k : w1.grownBy w2 row) : w.grownBy w2 row :=
  ⟨k.os.trans h.os, k.tape.trans h.tape, k.output.trans h.output, Nat.le_trans h.size k.size, fun j hj hn => (k.block j (Nat.lt_of_lt_of_le hj h.size) hn).trans (h.block j hj hn)⟩
theorem gb_ext {w w' : World} (h : Ext w w') (row : Option Nat) : w.grownBy w' row := ⟨h.os, h.tape, h.output, h.size, fun k hk _ => h.block k hk⟩
theorem gb_set (w : World) (b i : Nat) (v : Value) : w.grownBy (w.setCell ⟨b, i, none⟩ v) (some b) :=
  ⟨rfl, rfl, rfl, by simp, fun k _ hn => Below.heap_setCell w ⟨b, i, none⟩ v k (fun e => hn (by rw [e]))⟩
theorem Blk.gb {w w' : World} {b r : Nat} {L : List Value} (h : Blk w b L) (hg : w.grownBy w' (some r)) (hn : b ≠ r) : Blk w' b L := by
  have hl := h.lt
  obtain ⟨T, h⟩ := h
  exact ⟨T, (hg.block b hl (fun e => hn (Option.some.inj e))).trans h⟩
theorem ext_gb {w0 w w' : World} {r : Nat} (h : Ext w0 w) (hg : w.grownBy w' (some r)) (hr : w0.heap.size ≤ r) : Ext w0 w' :=
  Below.grown h hg h.size fun k hk => by injection hk with hk; omega

/-- The reader: its bytes, where it is, whether a part was none. -/
structure Rdr (w0 w : World) (rb : Nat) (v : Value) (at_ : Nat) (bad : Bool) : Prop where
  blk : Blk w rb [v, .int .i64 (at_ : Int), .bool bad]
  ext : Ext w0 w
  own : w0.heap.size ≤ rb
theorem Rdr.more {w0 w w' : World} {rb : Nat} {v : Value} {at_ : Nat} {bad : Bool} (h : Rdr w0 w rb v at_ bad) (he : Ext w w') : Rdr w0 w' rb v at_ bad := ⟨h.blk.ext he, h.ext.trans he, h.own⟩
theorem Rdr.apart {w0 w : World} {rb : Nat} {v : Value} {at_ : Nat} {bad : Bool} (h : Rdr w0 w rb v at_ bad) {b : Nat} (i : Nat) (x : Value) (hb : rb ≠ b) (hw : w0.heap.size ≤ b) : Rdr w0 (w.setCell ⟨b, i, none⟩ x) rb v at_ bad :=
  ⟨h.blk.apart (a := ⟨b, i, none⟩) x hb, h.ext.setCell (p := ⟨b, i, none⟩) hw x, h.own⟩
def rdNum (b : List UInt8) (s : Nat × Bool) : Nat × Nat × Bool := ((nget (b.drop s.1)).1, s.1 + (nget (b.drop s.1)).2.1, s.2 || !((nget (b.drop s.1)).2.2 == 0))
def rdText (b : List UInt8) (most : Int) (s : Nat × Bool) : List UInt8 × Nat × Bool := ((ntext (b.drop s.1) most).1, s.1 + (ntext (b.drop s.1) most).2.1, s.2 || !((ntext (b.drop s.1) most).2.2 == 0))
def rdWrite (b : List UInt8) (s : Nat × Bool) : Wr × Nat × Bool :=
  let k := rdText b 32 s
  let g := rdNum b k.2
  let t := rdNum b g.2
  if t.1 = 0 then (⟨k.1, g.1, false, (rdText b 64 t.2).1⟩, (rdText b 64 t.2).2) else if t.1 = 1 then (⟨k.1, g.1, true, []⟩, t.2) else (⟨k.1, g.1, false, []⟩, t.2.1, true)
theorem nget_none (l : List UInt8) (h : (nget l).2.2 ≠ 0) : nget l = (0, 0, (nget l).2.2) := by
  cases l with
  | nil => rfl
  | cons x r =>
    by_cases h1 : r.length + 1 < nlen x
    · simp only [nget, if_pos h1]
    · by_cases h2 : nsize (nval (x.toNat % 64) (r.take (nlen x - 1)) : Nat) = nlen x
      · simp only [nget, if_neg h1, if_pos h2] at h
        exact absurd rfl h
      · simp only [nget, if_neg h1, if_neg h2]
theorem nget_in (l : List UInt8) : (nget l).2.1 ≤ l.length ∧ (nget l).1 ≤ 4611686018427387903 := by
  by_cases h : (nget l).2.2 = 0
  · have := nget_room' l h; omega
  · rw [nget_none l h]; simp
theorem ntext_in (l : List UInt8) (most : Int) : (ntext l most).2.1 ≤ l.length ∧ (ntext l most).1.length ≤ l.length := by
  unfold ntext
  split
  · rename_i h
    have := nget_room' l h
    split
    · simp
    · split
      · simp
      · simp only [List.length_take, List.length_drop]; omega
  · simp
theorem rdNum_in (b : List UInt8) (s : Nat × Bool) (h : s.1 ≤ b.length) : (rdNum b s).2.1 ≤ b.length ∧ (rdNum b s).1 ≤ 4611686018427387903 := by
  have := nget_in (b.drop s.1)
  rw [List.length_drop] at this
  unfold rdNum
  dsimp only
  omega
theorem rdText_in (b : List UInt8) (most : Int) (s : Nat × Bool) (h : s.1 ≤ b.length) : (rdText b most s).2.1 ≤ b.length ∧ (rdText b most s).1.length ≤ b.length := by
  have := ntext_in (b.drop s.1) most
  rw [List.length_drop] at this
  unfold rdText
  dsimp only
  omega

set_option maxHeartbeats 1000000 in
theorem on_any (w0 w : World) (rb : Nat) (v : Value) (at_ : Nat) (bad : Bool) (n e : Nat) (h : Rdr w0 w rb v at_ bad) (hl : at_ + n ≤ 100000) :
    Calls Tryd.prog 69 #[.pointer (some ⟨rb, 0, none⟩), .int .i64 (n : Int), .int .i64 (e : Int)] w fun en w' => (∃ r, en = .returned r) ∧ Rdr w0 w' rb v (at_ + n) (bad || !(e == 0)) ∧ w.grownBy w' (some rb) := by
  have H := Lib.hid h
  have c0 := h.blk.cell (i := 0) rfl
  have c1 := h.blk.cell (i := 1) rfl
  have c2 := h.blk.cell (i := 2) rfl
  have z1 := h.blk.thaw 1
  have z2 := h.blk.thaw 2
  clear h
  have hw1 : IntKind.i64.wrap ((at_ : Int) + (n : Int)) = ((at_ + n : Nat) : Int) := by rw [IntWalk.i64_in _ (by omega)]; omega
  have K : Hid (∀ q : Bool, q = (bad || !(e == 0)) → Rdr w0 ((w.setCell ⟨rb, 1, none⟩ (.int .i64 ((at_ + n : Nat) : Int))).setCell ⟨rb, 2, none⟩ (.bool q)) rb v (at_ + n) (bad || !(e == 0)) ∧ w.grownBy ((w.setCell ⟨rb, 1, none⟩ (.int .i64 ((at_ + n : Nat) : Int))).setCell ⟨rb, 2, none⟩ (.bool q)) (some rb)) := by
    refine Lib.hid fun q hq => ?_
    subst hq
    exact ⟨⟨(H.out.blk.set 1 _).set 2 _, (H.out.ext.setCell (p := ⟨rb, 1, none⟩) H.out.own _).setCell (p := ⟨rb, 2, none⟩) H.out.own _, H.out.own⟩, gb_trans (gb_set _ _ _ _) (gb_set _ _ _ _)⟩
  cases bad
  · by_cases he : e = 0
    · subst he
      go_enter Tryd.func69, Tryd.ntmps69
      go_wp2_with fail
      go_end0
      exact ⟨⟨_, rfl⟩, K.out _ rfl⟩
    · have hb : ((e : Int) != 0) = true := by rw [bne_iff_ne]; omega
      have hq := Lib.hid (show true = (false || !(e == 0)) by simp [he])
      clear he
      go_enter Tryd.func69, Tryd.ntmps69
      go_wp2_with fail
      go_end0
      exact ⟨⟨_, rfl⟩, K.out _ hq.out⟩
  · go_enter Tryd.func69, Tryd.ntmps69
    go_wp2_with fail
    go_end0
    exact ⟨⟨_, rfl⟩, K.out _ rfl⟩

set_option maxHeartbeats 1000000 in
theorem rnum_any (w0 w : World) (rb : Nat) (A : Option Addr) (c : Nat) (b : List UInt8) (at_ : Nat) (bad : Bool) (h : Rdr w0 w rb (.slice A b.length c) at_ bad) (hb : Bs w0 (.slice A b.length c) b) (hat : at_ ≤ b.length) (hbl : b.length ≤ 100000) :
    Calls Tryd.prog 67 #[.pointer (some ⟨rb, 0, none⟩)] w fun en w' => en = .returned (.int .i64 ((rdNum b (at_, bad)).1 : Int)) ∧ Rdr w0 w' rb (.slice A b.length c) (rdNum b (at_, bad)).2.1 (rdNum b (at_, bad)).2.2 ∧ w.grownBy w' (some rb) := by
  have hcl : b.length ≤ c := by obtain ⟨_, _, e, h1, _⟩ := hb; injection e with _ e1 e2; simp only [List.length_map] at *; omega
  have HB := Lib.hid hb
  have hin := nget_in (b.drop at_)
  rw [List.length_drop] at hin
  have hng := fun v w hv => numGet_any v (b.drop at_) w hv
  unfold rdNum
  dsimp only
  generalize nget (b.drop at_) = g at *
  obtain ⟨x, k, f⟩ := g
  dsimp only at *
  have HNG := Lib.hid hng
  clear hng
  clear hb
  go_enter Tryd.func67, Tryd.ntmps67
  go_wp2_with fail
  refine wp_region_mono (by kernel_rfl) (by kernel_rfl) ?_
  refine tele_move rfl (.inl rfl) rfl (isV (.pointer (some ⟨rb, 0, none⟩))) (fun ρ w' h => h) ?_
  refine tele_val rfl (.pointer (some ⟨rb, 0, none⟩)) (fun _ _ _ => rfl) ?_ ?_
  · rintro ρ w' he ⟨h7, -⟩
    have e7 : ρ 7 = .pointer (some ⟨rb, 0, none⟩) := h7
    simp [execOp, evR, e7, go_sem]
  refine tele_val rfl (.pointer (some ⟨rb, 0, none⟩)) (fun _ _ _ => rfl) ?_ ?_
  · rintro ρ w' he ⟨h8, -⟩
    have e8 : ρ 8 = .pointer (some ⟨rb, 0, none⟩) := h8
    simp [execOp, evR, e8, go_sem]
  refine tele_val rfl (.slice A b.length c) (fun _ _ _ => rfl) ?_ ?_
  · rintro ρ w' he ⟨h9, -⟩
    have e9 : ρ 9 = .pointer (some ⟨rb, 0, none⟩) := h9
    have c0 := (h.blk.ext he).cell (i := 0) rfl
    simp [execOp, evR, e9, c0, go_sem]
  refine tele_move rfl (.inl rfl) rfl (isV (.pointer (some ⟨rb, 0, none⟩))) (fun ρ w' h => h) ?_
  refine tele_val rfl (.pointer (some ⟨rb, 0, none⟩)) (fun _ _ _ => rfl) ?_ ?_
  · rintro ρ w' he ⟨h11, -⟩
    have e11 : ρ 11 = .pointer (some ⟨rb, 0, none⟩) := h11
    simp [execOp, evR, e11, go_sem]
  refine tele_val rfl (.pointer (some ⟨rb, 1, none⟩)) (fun _ _ _ => rfl) ?_ ?_
  · rintro ρ w' he ⟨h12, -⟩
    have e12 : ρ 12 = .pointer (some ⟨rb, 0, none⟩) := h12
    simp [execOp, evR, e12, go_sem]
  refine tele_val rfl (.int .i64 (at_ : Int)) (fun _ _ _ => rfl) ?_ ?_
  · rintro ρ w' he ⟨h13, -⟩
    have e13 : ρ 13 = .pointer (some ⟨rb, 1, none⟩) := h13
    have c0 := (h.blk.ext he).cell (i := 1) rfl
    simp [execOp, evR, e13, c0, go_sem]
  refine tele_any rfl (isBs (b.drop at_)) ?_ ?_
  · rintro ρ w' he hk
    rw [if_pos (show wantedR _ _ _ = true from rfl)]
    obtain ⟨h10, h14, -⟩ := hk
    have e10 : ρ 10 = .slice A b.length c := h10
    have e14 : ρ 14 = .int .i64 (at_ : Int) := h14
    rw [exec_bs_from (f := evR ρ) (x := .tmp 10) (y := .tmp 14) rfl e10 e14 hat hcl]
    exact ⟨Ext.refl _, (HB.out.ext (h.ext.trans he)).from_ hat⟩
  refine tele_call rfl rfl Tryd.func88 (by kernel_rfl) (isV (.tuple #[.int .i64 (x : Int), .int .i64 (k : Int), .int .i64 (f : Int)])) (fun _ _ _ => rfl) ?_ ?_
  · rintro ρ w' he ⟨h15, -⟩
    have e15 : (isBs (b.drop at_)).rel (ρ 15) w' := h15
    simp only [evR, List.map_toArray, List.map_cons, List.map_nil]
    refine (HNG.out _ _ e15).mono ?_
    rintro e w'' ⟨rfl, rfl⟩
    exact ⟨_, rfl, Ext.refl _, rfl⟩
  refine tele_move rfl (.inl rfl) rfl (isV (.tuple #[.int .i64 (x : Int), .int .i64 (k : Int), .int .i64 (f : Int)])) (fun ρ w' h => h) ?_
  refine tele_val rfl (.int .i64 (x : Int)) (fun _ _ _ => rfl) ?_ ?_
  · rintro ρ w' he ⟨h6, -⟩
    have e6 : ρ 6 = .tuple #[.int .i64 (x : Int), .int .i64 (k : Int), .int .i64 (f : Int)] := h6
    simp [execOp, evR, e6, go_sem]
  refine tele_val rfl (.int .i64 (k : Int)) (fun _ _ _ => rfl) ?_ ?_
  · rintro ρ w' he ⟨h6, -⟩
    have e6 : ρ 6 = .tuple #[.int .i64 (x : Int), .int .i64 (k : Int), .int .i64 (f : Int)] := h6
    simp [execOp, evR, e6, go_sem]
  refine tele_val rfl (.int .i64 (f : Int)) (fun _ _ _ => rfl) ?_ ?_
  · rintro ρ w' he ⟨h6, -⟩
    have e6 : ρ 6 = .tuple #[.int .i64 (x : Int), .int .i64 (k : Int), .int .i64 (f : Int)] := h6
    simp [execOp, evR, e6, go_sem]
  refine tele_move rfl (.inr rfl) rfl (isV (.int .i64 (x : Int))) (fun ρ w' h => h) ?_
  refine tele_move rfl (.inr rfl) rfl (isV (.int .i64 (k : Int))) (fun ρ w' h => h) ?_
  refine tele_move rfl (.inr rfl) rfl (isV (.int .i64 (f : Int))) (fun ρ w' h => h) ?_
  refine tele_nil ?_
  rintro ρ w' hext ⟨f5, f4, f3, f19, f18, f17, f6, f16, f15, f14, f13, f12, f11, f10, f9, f8, f7, -⟩
  clear f7
  clear f8
  clear f9
  clear f10
  clear f11
  clear f12
  clear f13
  clear f14
  clear f15
  clear f16
  clear f6
  clear f17
  clear f18
  clear f19
  replace f3 : ρ 3 = .int .i64 (x : Int) := f3
  replace f4 : ρ 4 = .int .i64 (k : Int) := f4
  replace f5 : ρ 5 = .int .i64 (f : Int) := f5
  simp only [puts, Act.put, List.setIfInBounds_toArray, List.set_cons_zero, List.set_cons_succ]
  generalize ρ 3 = v3 at *
  generalize ρ 4 = v4 at *
  generalize ρ 5 = v5 at *
  subst f3 f4 f5
  replace h := h.more hext
  have H := Lib.hid h
  clear h
  go_wp2_with fail
  refine (on_any w0 _ rb _ at_ bad k f H.out (by omega)).mono ?_
  rintro en w2 ⟨⟨r, rfl⟩, h2, hg⟩
  have H2 := Lib.hid h2
  have HG := Lib.hid (gb_trans (gb_ext hext (some rb)) hg)
  clear h2 hg hext
  go_wp2_with fail
  go_ret
  exact ⟨rfl, H2.out, HG.out⟩

set_option maxHeartbeats 1000000 in
theorem rtext_any (w0 w : World) (rb : Nat) (A : Option Addr) (c : Nat) (b : List UInt8) (most : Int) (at_ : Nat) (bad : Bool) (h : Rdr w0 w rb (.slice A b.length c) at_ bad) (hb : Bs w0 (.slice A b.length c) b) (hat : at_ ≤ b.length) (hbl : b.length ≤ 100000)
    (hm : -9223372036854775808 ≤ most ∧ most ≤ 9223372036854775807) :
    Calls Tryd.prog 89 #[.pointer (some ⟨rb, 0, none⟩), .int .i64 most] w fun en w' => en = .returned (strV (rdText b most (at_, bad)).1) ∧ Rdr w0 w' rb (.slice A b.length c) (rdText b most (at_, bad)).2.1 (rdText b most (at_, bad)).2.2 ∧ w.grownBy w' (some rb) := by
  have hcl : b.length ≤ c := by obtain ⟨_, _, e, h1, _⟩ := hb; injection e with _ e1 e2; simp only [List.length_map] at *; omega
  have HB := Lib.hid hb
  have hin := (ntext_in (b.drop at_) most).1
  rw [List.length_drop] at hin
  have hng := fun v w hv => numGetText_any v (b.drop at_) most w hv hm
  unfold rdText
  dsimp only
  generalize ntext (b.drop at_) most = g at *
  obtain ⟨x, k, f⟩ := g
  dsimp only at *
  have HNG := Lib.hid hng
  clear hng
  clear hb
  go_enter Tryd.func89, Tryd.ntmps89
  go_wp2_with fail
  refine wp_region_mono (by kernel_rfl) (by kernel_rfl) ?_
  refine tele_move rfl (.inl rfl) rfl (isV (.pointer (some ⟨rb, 0, none⟩))) (fun ρ w' h => h) ?_
  refine tele_val rfl (.pointer (some ⟨rb, 0, none⟩)) (fun _ _ _ => rfl) ?_ ?_
  · rintro ρ w' he ⟨h9, -⟩
    have e9 : ρ 9 = .pointer (some ⟨rb, 0, none⟩) := h9
    simp [execOp, evR, e9, go_sem]
  refine tele_val rfl (.pointer (some ⟨rb, 0, none⟩)) (fun _ _ _ => rfl) ?_ ?_
  · rintro ρ w' he ⟨h10, -⟩
    have e10 : ρ 10 = .pointer (some ⟨rb, 0, none⟩) := h10
    simp [execOp, evR, e10, go_sem]
  refine tele_val rfl (.slice A b.length c) (fun _ _ _ => rfl) ?_ ?_
  · rintro ρ w' he ⟨h11, -⟩
    have e11 : ρ 11 = .pointer (some ⟨rb, 0, none⟩) := h11
    have c0 := (h.blk.ext he).cell (i := 0) rfl
    simp [execOp, evR, e11, c0, go_sem]
  refine tele_move rfl (.inl rfl) rfl (isV (.pointer (some ⟨rb, 0, none⟩))) (fun ρ w' h => h) ?_
  refine tele_val rfl (.pointer (some ⟨rb, 0, none⟩)) (fun _ _ _ => rfl) ?_ ?_
  · rintro ρ w' he ⟨h13, -⟩
    have e13 : ρ 13 = .pointer (some ⟨rb, 0, none⟩) := h13
    simp [execOp, evR, e13, go_sem]
  refine tele_val rfl (.pointer (some ⟨rb, 1, none⟩)) (fun _ _ _ => rfl) ?_ ?_
  · rintro ρ w' he ⟨h14, -⟩
    have e14 : ρ 14 = .pointer (some ⟨rb, 0, none⟩) := h14
    simp [execOp, evR, e14, go_sem]
  refine tele_val rfl (.int .i64 (at_ : Int)) (fun _ _ _ => rfl) ?_ ?_
  · rintro ρ w' he ⟨h15, -⟩
    have e15 : ρ 15 = .pointer (some ⟨rb, 1, none⟩) := h15
    have c0 := (h.blk.ext he).cell (i := 1) rfl
    simp [execOp, evR, e15, c0, go_sem]
  refine tele_any rfl (isBs (b.drop at_)) ?_ ?_
  · rintro ρ w' he hk
    rw [if_pos (show wantedR _ _ _ = true from rfl)]
    obtain ⟨h12, h16, -⟩ := hk
    have e12 : ρ 12 = .slice A b.length c := h12
    have e16 : ρ 16 = .int .i64 (at_ : Int) := h16
    rw [exec_bs_from (f := evR ρ) (x := .tmp 12) (y := .tmp 16) rfl e12 e16 hat hcl]
    exact ⟨Ext.refl _, (HB.out.ext (h.ext.trans he)).from_ hat⟩
  refine tele_move rfl (.inl rfl) rfl (isV (.int .i64 most)) (fun ρ w' h => h) ?_
  refine tele_call rfl rfl Tryd.func100 (by kernel_rfl) (isV (.tuple #[strV x, .int .i64 (k : Int), .int .i64 (f : Int)])) (fun _ _ _ => rfl) ?_ ?_
  · rintro ρ w' he ⟨h17, h18, -⟩
    have e17 : (isBs (b.drop at_)).rel (ρ 17) w' := h17
    have e18 : ρ 18 = .int .i64 most := h18
    simp only [evR, List.map_toArray, List.map_cons, List.map_nil, e18]
    refine (HNG.out _ _ e17).mono ?_
    rintro e w'' ⟨rfl, hx⟩
    exact ⟨_, rfl, hx, rfl⟩
  refine tele_move rfl (.inl rfl) rfl (isV (.tuple #[strV x, .int .i64 (k : Int), .int .i64 (f : Int)])) (fun ρ w' h => h) ?_
  refine tele_val rfl (strV x) (fun _ _ _ => rfl) ?_ ?_
  · rintro ρ w' he ⟨h8, -⟩
    have e8 : ρ 8 = .tuple #[strV x, .int .i64 (k : Int), .int .i64 (f : Int)] := h8
    simp [execOp, evR, e8, go_sem]
  refine tele_val rfl (.int .i64 (k : Int)) (fun _ _ _ => rfl) ?_ ?_
  · rintro ρ w' he ⟨h8, -⟩
    have e8 : ρ 8 = .tuple #[strV x, .int .i64 (k : Int), .int .i64 (f : Int)] := h8
    simp [execOp, evR, e8, go_sem]
  refine tele_val rfl (.int .i64 (f : Int)) (fun _ _ _ => rfl) ?_ ?_
  · rintro ρ w' he ⟨h8, -⟩
    have e8 : ρ 8 = .tuple #[strV x, .int .i64 (k : Int), .int .i64 (f : Int)] := h8
    simp [execOp, evR, e8, go_sem]
  refine tele_move rfl (.inr rfl) rfl (isV (strV x)) (fun ρ w' h => h) ?_
  refine tele_move rfl (.inr rfl) rfl (isV (.int .i64 (k : Int))) (fun ρ w' h => h) ?_
  refine tele_move rfl (.inr rfl) rfl (isV (.int .i64 (f : Int))) (fun ρ w' h => h) ?_
  refine tele_nil ?_
  rintro ρ w' hext ⟨f7, f6, f5, f22, f21, f20, f8, f19, f18, f17, f16, f15, f14, f13, f12, f11, f10, f9, -⟩
  clear f9
  clear f10
  clear f11
  clear f12
  clear f13
  clear f14
  clear f15
  clear f16
  clear f17
  clear f18
  clear f19
  clear f8
  clear f20
  clear f21
  clear f22
  replace f5 : ρ 5 = strV x := f5
  replace f6 : ρ 6 = .int .i64 (k : Int) := f6
  replace f7 : ρ 7 = .int .i64 (f : Int) := f7
  simp only [puts, Act.put, List.setIfInBounds_toArray, List.set_cons_zero, List.set_cons_succ]
  generalize ρ 5 = v5 at *
  generalize ρ 6 = v6 at *
  generalize ρ 7 = v7 at *
  subst f5 f6 f7
  replace h := h.more hext
  have H := Lib.hid h
  clear h
  go_wp2_with fail
  refine (on_any w0 _ rb _ at_ bad k f H.out (by omega)).mono ?_
  rintro en w2 ⟨⟨r, rfl⟩, h2, hg⟩
  have H2 := Lib.hid h2
  have HG := Lib.hid (gb_trans (gb_ext hext (some rb)) hg)
  clear h2 hg hext
  go_wp2_with fail
  go_ret
  exact ⟨rfl, H2.out, HG.out⟩
end Go.Proofs.YtacabcpjaadijaaDoor

/-
  The reader of changes: a write.
-/
namespace Go.Proofs.YtacabcpjaadijaaDoor
open Go Go.RowKit Mono Num
set_option linter.unusedVariables false
set_option linter.unusedSimpArgs false
set_option maxRecDepth 10000

/-- What stands in a block of the call's own while the reader reads on. -/
structure Own (w0 w : World) (rb wb : Nat) (L : List Value) : Prop where
  blk : Blk w wb L
  ne : rb ≠ wb
  own : w0.heap.size ≤ wb
theorem Own.gb {w0 w w' : World} {rb wb : Nat} {L : List Value} (h : Own w0 w rb wb L) (hg : w.grownBy w' (some rb)) : Own w0 w' rb wb L := ⟨h.blk.gb hg (fun e => h.ne e.symm), h.ne, h.own⟩
theorem Own.set {w0 w : World} {rb wb : Nat} {L : List Value} (h : Own w0 w rb wb L) (i : Nat) (x : Value) : Own w0 (w.setCell ⟨wb, i, none⟩ x) rb wb (L.set i x) := ⟨h.blk.set i x, h.ne, h.own⟩
theorem Rdr.at_ {w0 w : World} {rb : Nat} {v : Value} {a : Nat} {bad : Bool} (h : Rdr w0 w rb v a bad) {wb : Nat} {L : List Value} (k : Own w0 w rb wb L) (i : Nat) (x : Value) : Rdr w0 (w.setCell ⟨wb, i, none⟩ x) rb v a bad := h.apart i x k.ne k.own
/-- New memory, writes to the reader's block, and to a block that was not there. -/
theorem gb_new {w w1 w' : World} {rb wb : Nat} (h : w.grownBy w1 (some rb)) (i : Nat) (x : Value) (hn : w.heap.size ≤ wb) (h' : w' = w1.setCell ⟨wb, i, none⟩ x) : w.grownBy w' (some rb) := by
  subst h'
  exact ⟨h.os, h.tape, h.output, by simpa using h.size, fun j hj hne => (Below.heap_setCell w1 ⟨wb, i, none⟩ x j (by show j ≠ wb; omega)).trans (h.block j hj hne)⟩
theorem close4 {w0 w w1 : World} {rb wb : Nat} {v : Value} {a : Nat} {bad : Bool} {y0 y1 y2 y3 : Value} (H : Rdr w0 w1 rb v a bad) (HO : Own w0 w1 rb wb [y0, y1, y2, y3]) (HG : w.grownBy w1 (some rb)) (HW : w.heap.size ≤ wb) (x0 x1 x2 x3 : Value) :
    Rdr w0 ((((w1.setCell ⟨wb, 0, none⟩ x0).setCell ⟨wb, 1, none⟩ x1).setCell ⟨wb, 2, none⟩ x2).setCell ⟨wb, 3, none⟩ x3) rb v a bad ∧ w.grownBy ((((w1.setCell ⟨wb, 0, none⟩ x0).setCell ⟨wb, 1, none⟩ x1).setCell ⟨wb, 2, none⟩ x2).setCell ⟨wb, 3, none⟩ x3) (some rb) ∧
      Blk ((((w1.setCell ⟨wb, 0, none⟩ x0).setCell ⟨wb, 1, none⟩ x1).setCell ⟨wb, 2, none⟩ x2).setCell ⟨wb, 3, none⟩ x3) wb [x0, x1, x2, x3] :=
  ⟨(((H.at_ HO 0 x0).at_ (HO.set 0 x0) 1 x1).at_ ((HO.set 0 x0).set 1 x1) 2 x2).at_ (((HO.set 0 x0).set 1 x1).set 2 x2) 3 x3,
   gb_new (gb_new (gb_new (gb_new HG 0 x0 HW rfl) 1 x1 HW rfl) 2 x2 HW rfl) 3 x3 HW rfl, ((((HO.set 0 x0).set 1 x1).set 2 x2).set 3 x3).blk⟩

set_option maxHeartbeats 4000000 in
theorem rdwrite_any (w0 w : World) (rb : Nat) (A : Option Addr) (c : Nat) (b : List UInt8) (at_ : Nat) (bad : Bool) (h : Rdr w0 w rb (.slice A b.length c) at_ bad) (hb : Bs w0 (.slice A b.length c) b) (hat : at_ ≤ b.length) (hbl : b.length ≤ 100000) :
    Calls Tryd.prog 71 #[.pointer (some ⟨rb, 0, none⟩)] w fun en w' => en = .returned (.agg #[strV (rdWrite b (at_, bad)).1.key, .int .i64 (rdWrite b (at_, bad)).1.group, .bool (rdWrite b (at_, bad)).1.gone, strV (rdWrite b (at_, bad)).1.value]) ∧
      Rdr w0 w' rb (.slice A b.length c) (rdWrite b (at_, bad)).2.1 (rdWrite b (at_, bad)).2.2 ∧ w.grownBy w' (some rb) := by
  have HB := Lib.hid hb
  clear hb
  have i1 := (rdText_in b 32 (at_, bad) hat).1
  have T1 := Lib.hid (fun w h => rtext_any w0 w rb A c b 32 at_ bad h HB.out hat hbl (by omega))
  have hw1 : rdWrite b (at_, bad) = rdWrite b (at_, bad) := rfl
  unfold rdWrite
  dsimp only
  clear hw1
  generalize rdText b 32 (at_, bad) = t1 at *
  obtain ⟨k, a1, b1⟩ := t1
  dsimp only at *
  have i2 := rdNum_in b (a1, b1) i1
  have T2 := Lib.hid (fun w h => rnum_any w0 w rb A c b a1 b1 h HB.out i1 hbl)
  generalize rdNum b (a1, b1) = t2 at *
  obtain ⟨g, a2, b2⟩ := t2
  dsimp only at *
  have i3 := rdNum_in b (a2, b2) i2.1
  have T3 := Lib.hid (fun w h => rnum_any w0 w rb A c b a2 b2 h HB.out i2.1 hbl)
  generalize rdNum b (a2, b2) = t3 at *
  obtain ⟨t, a3, b3⟩ := t3
  dsimp only at *
  have i4 := (rdText_in b 64 (a3, b3) i3.1).1
  have T4 := Lib.hid (fun w h => rtext_any w0 w rb A c b 64 a3 b3 h HB.out i3.1 hbl (by omega))
  generalize rdText b 64 (a3, b3) = t4 at *
  obtain ⟨z, a4, b4⟩ := t4
  dsimp only at *
  unfold strV at T1 T4
  have hrb := h.blk.lt
  have hsz := h.ext.size
  have H := Lib.hid (h.more (ext_alloc w (.cells #[.string ⟨#[]⟩, .int .i64 0, .bool false, .string ⟨#[]⟩] 62)))
  have HO := Lib.hid (⟨Blk.new w #[.string ⟨#[]⟩, .int .i64 0, .bool false, .string ⟨#[]⟩] 62, Nat.ne_of_lt hrb, hsz⟩ : Own w0 (w.alloc (.cells #[.string ⟨#[]⟩, .int .i64 0, .bool false, .string ⟨#[]⟩] 62)) rb w.heap.size [.string ⟨#[]⟩, .int .i64 0, .bool false, .string ⟨#[]⟩])
  have HG := Lib.hid (gb_ext (ext_alloc w (.cells #[.string ⟨#[]⟩, .int .i64 0, .bool false, .string ⟨#[]⟩] 62)) (some rb))
  clear h hrb hsz
  go_enter Tryd.func71, Tryd.ntmps71
  go_wp2_with fail
  generalize w.alloc (.cells #[.string ⟨#[]⟩, .int .i64 0, .bool false, .string ⟨#[]⟩] 62) = W at *
  obtain ⟨wb, hwb⟩ : ∃ n, n = w.heap.size := ⟨_, rfl⟩
  rw [← hwb] at HO ⊢
  have HW := Lib.hid (show w.heap.size ≤ wb by omega)
  clear hwb
  refine (T1.out _ H.out).mono ?_
  rintro en w1 ⟨rfl, h1, hg1⟩
  have HO1 := Lib.hid (HO.out.gb hg1)
  have HG1 := Lib.hid (gb_trans HG.out hg1)
  have H1 := Lib.hid h1
  clear h1 hg1 H HO HG
  go_wp2_with fail
  refine (T2.out _ H1.out).mono ?_
  rintro en w2 ⟨rfl, h2, hg2⟩
  have HO2 := Lib.hid (HO1.out.gb hg2)
  have HG2 := Lib.hid (gb_trans HG1.out hg2)
  have H2 := Lib.hid h2
  clear h2 hg2 H1 HO1 HG1
  have bw := HO2.out.blk
  have c0 := bw.cell (i := 0) rfl
  have c1 := bw.cell (i := 1) rfl
  have c2 := bw.cell (i := 2) rfl
  have c3 := bw.cell (i := 3) rfl
  have z0 := bw.thaw 0
  have z1 := bw.thaw 1
  have z2 := bw.thaw 2
  have z3 := bw.thaw 3
  clear bw
  go_wp2_with fail
  clear c0 c1 c2 c3 z0 z1 z2 z3
  have HO3 := Lib.hid ((HO2.out.set 0 (.string ⟨k.toArray⟩)).set 1 (.int .i64 (g : Int)))
  have H3 := Lib.hid ((H2.out.at_ HO2.out 0 (.string ⟨k.toArray⟩)).at_ (HO2.out.set 0 (.string ⟨k.toArray⟩)) 1 (.int .i64 (g : Int)))
  have HG3 := Lib.hid (gb_new (gb_new HG2.out 0 (.string ⟨k.toArray⟩) HW.out rfl) 1 (.int .i64 (g : Int)) HW.out rfl)
  clear H2 HO2 HG2
  generalize (w2.setCell ⟨wb, 0, none⟩ (.string ⟨k.toArray⟩)).setCell ⟨wb, 1, none⟩ (.int .i64 (g : Int)) = W3 at *
  refine (T3.out _ H3.out).mono ?_
  rintro en w3 ⟨rfl, h4, hg4⟩
  have HO4 := Lib.hid (HO3.out.gb hg4)
  have HG4 := Lib.hid (gb_trans HG3.out hg4)
  have H4 := Lib.hid h4
  clear h4 hg4 H3 HO3 HG3
  by_cases ht0 : t = 0
  · subst ht0
    go_wp2_with fail
    refine (T4.out _ H4.out).mono ?_
    rintro en w4 ⟨rfl, h5, hg5⟩
    have HO5 := Lib.hid (HO4.out.gb hg5)
    have HG5 := Lib.hid (gb_trans HG4.out hg5)
    have H5 := Lib.hid h5
    clear h5 hg5 H4 HO4 HG4
    have bw := HO5.out.blk
    have c0 := bw.cell (i := 0) rfl
    have c1 := bw.cell (i := 1) rfl
    have c2 := bw.cell (i := 2) rfl
    have c3 := bw.cell (i := 3) rfl
    have z0 := bw.thaw 0
    have z1 := bw.thaw 1
    have z2 := bw.thaw 2
    have z3 := bw.thaw 3
    go_wp2_with fail
    obtain ⟨hr, hgf, bf⟩ := close4 (H5.out.at_ HO5.out 3 (.string ⟨z.toArray⟩)) (HO5.out.set 3 (.string ⟨z.toArray⟩)) (gb_new HG5.out 3 (.string ⟨z.toArray⟩) HW.out rfl) HW.out (.string ⟨k.toArray⟩) (.int .i64 (g : Int)) (.bool false) (.string ⟨z.toArray⟩)
    have d0 := bf.cell (i := 0) rfl
    have d1 := bf.cell (i := 1) rfl
    have d2 := bf.cell (i := 2) rfl
    have d3 := bf.cell (i := 3) rfl
    exact bodyPost_ret (v := .agg #[.string ⟨k.toArray⟩, .int .i64 (g : Int), .bool false, .string ⟨z.toArray⟩]) (by simp [results, Tryd.results71, d0, d1, d2, d3, go_sem]) rfl ⟨rfl, hr, hgf⟩
  · by_cases ht1 : t = 1
    · subst ht1
      clear ht0
      have bw := HO4.out.blk
      have c0 := bw.cell (i := 0) rfl
      have c1 := bw.cell (i := 1) rfl
      have c2 := bw.cell (i := 2) rfl
      have c3 := bw.cell (i := 3) rfl
      have z0 := bw.thaw 0
      have z1 := bw.thaw 1
      have z2 := bw.thaw 2
      have z3 := bw.thaw 3
      go_wp2_with fail
      obtain ⟨hr, hgf, bf⟩ := close4 (H4.out.at_ HO4.out 2 (.bool true)) (HO4.out.set 2 (.bool true)) (gb_new HG4.out 2 (.bool true) HW.out rfl) HW.out (.string ⟨k.toArray⟩) (.int .i64 (g : Int)) (.bool true) (.string ⟨([] : List UInt8).toArray⟩)
      have d0 := bf.cell (i := 0) rfl
      have d1 := bf.cell (i := 1) rfl
      have d2 := bf.cell (i := 2) rfl
      have d3 := bf.cell (i := 3) rfl
      exact bodyPost_ret (v := .agg #[.string ⟨k.toArray⟩, .int .i64 (g : Int), .bool true, .string ⟨([] : List UInt8).toArray⟩]) (by simp [results, Tryd.results71, d0, d1, d2, d3, go_sem]) rfl ⟨rfl, hr, hgf⟩
    · have N0 := Lib.hid ht0
      have N1 := Lib.hid ht1
      have e0 : ((t : Int) == 0) = false := by rw [beq_eq_false_iff_ne]; omega
      have e1 : ((t : Int) == 1) = false := by rw [beq_eq_false_iff_ne]; omega
      clear ht0 ht1
      have HR : Hid (Rdr w0 (w3.setCell ⟨rb, 2, none⟩ (.bool true)) rb (.slice A b.length c) a3 true) := Lib.hid ⟨H4.out.blk.set 2 (.bool true), H4.out.ext.setCell (p := ⟨rb, 2, none⟩) H4.out.own _, H4.out.own⟩
      have HO5 : Hid (Own w0 (w3.setCell ⟨rb, 2, none⟩ (.bool true)) rb wb _) := Lib.hid ⟨HO4.out.blk.apart (a := ⟨rb, 2, none⟩) (.bool true) (fun e => HO4.out.ne e.symm), HO4.out.ne, HO4.out.own⟩
      have HG5 := Lib.hid (gb_trans HG4.out (gb_set w3 rb 2 (.bool true)))
      have r2 := H4.out.blk.cell (i := 2) rfl
      have rz := H4.out.blk.thaw 2
      have bw := HO5.out.blk
      have c0 := bw.cell (i := 0) rfl
      have c1 := bw.cell (i := 1) rfl
      have c2 := bw.cell (i := 2) rfl
      have c3 := bw.cell (i := 3) rfl
      have z0 := bw.thaw 0
      have z1 := bw.thaw 1
      have z2 := bw.thaw 2
      have z3 := bw.thaw 3
      go_wp2_with fail
      obtain ⟨hr, hgf, bf⟩ := close4 HR.out HO5.out HG5.out HW.out (.string ⟨k.toArray⟩) (.int .i64 (g : Int)) (.bool false) (.string ⟨([] : List UInt8).toArray⟩)
      have d0 := bf.cell (i := 0) rfl
      have d1 := bf.cell (i := 1) rfl
      have d2 := bf.cell (i := 2) rfl
      have d3 := bf.cell (i := 3) rfl
      refine bodyPost_ret (v := .agg #[.string ⟨k.toArray⟩, .int .i64 (g : Int), .bool false, .string ⟨([] : List UInt8).toArray⟩]) (by simp [results, Tryd.results71, d0, d1, d2, d3, go_sem]) rfl ?_
      exact ⟨rfl, hr, hgf⟩
end Go.Proofs.YtacabcpjaadijaaDoor
