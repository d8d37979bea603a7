/-
  The reader of changes: what its methods read, and what they leave.
-/
import Derived.Test.YtocdifjdeifclaaChPut
import Derived.Test.YtocdifjdeifclaaVecGetC
namespace Go.Proofs.Ytocdifjdeifclaa
open Go Go.RowKit Mono Num
set_option linter.unusedVariables false
set_option linter.unusedSimpArgs false
set_option maxRecDepth 10000

/-- 's[k:]' of bytes. -/
theorem exec_bs_from {w : World} {o : Oper} {f : Operand → Value} {x y : Operand} {A : Option Addr} {n c k : Nat} (hop : o.op = .slice 56 x (some y) none none)
    (hx : f x = .slice A n c) (hy : f y = .int .i64 (k : Int)) (hk : k ≤ n) (hn : n ≤ c) :
    (execOp f o).run Try.prog w = .ok (.value (.slice (if c = k then A else A.map (·.add k)) (n - k) (c - k))) w := by
  have h1 : (k : Int) ≤ (n : Int) := by omega
  have h0 : (0 : Int) ≤ (k : Int) := by omega
  have hu := Try.underlying56
  simp [execOp, hop, hx, hy, h0, h1, go_sem]
theorem gb_trans {w w1 w2 : World} {row : Option Nat} (h : w.grownBy w1 row) (k : w1.grownBy w2 row) : w.grownBy w2 row :=
  ⟨k.os.trans h.os, k.tape.trans h.tape, k.output.trans h.output, Nat.le_trans h.size k.size, fun j hj hn => (k.block j (Nat.lt_of_lt_of_le hj h.size) hn).trans (h.block j hj hn)⟩
theorem gb_ext {w w' : World} (h : Ext w w') (row : Option Nat) : w.grownBy w' row := ⟨h.os, h.tape, h.output, h.size, fun k hk _ => h.block k hk⟩
theorem gb_set (w : World) (b i : Nat) (v : Value) : w.grownBy (w.setCell ⟨b, i, none⟩ v) (some b) :=
  ⟨rfl, rfl, rfl, by simp, fun k _ hn => Below.heap_setCell w ⟨b, i, none⟩ v k (fun e => hn (by rw [e]))⟩
theorem Blk.gb {w w' : World} {b r : Nat} {L : List Value} (h : Blk w b L) (hg : w.grownBy w' (some r)) (hn : b ≠ r) : Blk w' b L := by
  have hl := h.lt
  obtain ⟨T, h⟩ := h
  exact ⟨T, (hg.block b hl (fun e => hn (Option.some.inj e))).trans h⟩
theorem ext_gb {w0 w w' : World} {r : Nat} (h : Ext w0 w) (hg : w.grownBy w' (some r)) (hr : w0.heap.size ≤ r) : Ext w0 w' :=
  Below.grown h hg h.size fun k hk => by injection hk with hk; omega

/-- The reader: its bytes, where it is, whether a part was none. -/
structure Rdr (w0 w : World) (rb : Nat) (v : Value) (at_ : Nat) (bad : Bool) : Prop where
  blk : Blk w rb [v, .int .i64 (at_ : Int), .bool bad]
  ext : Ext w0 w
  own : w0.heap.size ≤ rb
theorem Rdr.more {w0 w w' : World} {rb : Nat} {v : Value} {at_ : Nat} {bad : Bool} (h : Rdr w0 w rb v at_ bad) (he : Ext w w') : Rdr w0 w' rb v at_ bad := ⟨h.blk.ext he, h.ext.trans he, h.own⟩
theorem Rdr.apart {w0 w : World} {rb : Nat} {v : Value} {at_ : Nat} {bad : Bool} (h : Rdr w0 w rb v at_ bad) {b : Nat} (i : Nat) (x : Value) (hb : rb ≠ b) (hw : w0.heap.size ≤ b) : Rdr w0 (w.setCell ⟨b, i, none⟩ x) rb v at_ bad :=
  ⟨h.blk.apart (a := ⟨b, i, none⟩) x hb, h.ext.setCell (p := ⟨b, i, none⟩) hw x, h.own⟩
def rdNum (b : List UInt8) (s : Nat × Bool) : Nat × Nat × Bool := ((nget (b.drop s.1)).1, s.1 + (nget (b.drop s.1)).2.1, s.2 || !((nget (b.drop s.1)).2.2 == 0))
def rdText (b : List UInt8) (most : Int) (s : Nat × Bool) : List UInt8 × Nat × Bool := ((ntext (b.drop s.1) most).1, s.1 + (ntext (b.drop s.1) most).2.1, s.2 || !((ntext (b.drop s.1) most).2.2 == 0))
def rdWrite (b : List UInt8) (s : Nat × Bool) : Wr × Nat × Bool :=
  let k := rdText b 32 s
  let g := rdNum b k.2
  let t := rdNum b g.2
  if t.1 = 0 then (⟨k.1, g.1, false, (rdText b 64 t.2).1⟩, (rdText b 64 t.2).2) else if t.1 = 1 then (⟨k.1, g.1, true, []⟩, t.2) else (⟨k.1, g.1, false, []⟩, t.2.1, true)
theorem nget_none (l : List UInt8) (h : (nget l).2.2 ≠ 0) : nget l = (0, 0, (nget l).2.2) := by
  cases l with
  | nil => rfl
  | cons x r =>
    by_cases h1 : r.length + 1 < nlen x
    · simp only [nget, if_pos h1]
    · by_cases h2 : nsize (nval (x.toNat % 64) (r.take (nlen x - 1)) : Nat) = nlen x
      · simp only [nget, if_neg h1, if_pos h2] at h
        exact absurd rfl h
      · simp only [nget, if_neg h1, if_neg h2]
theorem nget_in (l : List UInt8) : (nget l).2.1 ≤ l.length ∧ (nget l).1 ≤ 4611686018427387903 := by
  by_cases h : (nget l).2.2 = 0
  · have := nget_room' l h; omega
  · rw [nget_none l h]; simp
theorem ntext_in (l : List UInt8) (most : Int) : (ntext l most).2.1 ≤ l.length ∧ (ntext l most).1.length ≤ l.length := by
  unfold ntext
  split
  · rename_i h
    have := nget_room' l h
    split
    · simp
    · split
      · simp
      · simp only [List.length_take, List.length_drop]; omega
  · simp
theorem rdNum_in (b : List UInt8) (s : Nat × Bool) (h : s.1 ≤ b.length) : (rdNum b s).2.1 ≤ b.length ∧ (rdNum b s).1 ≤ 4611686018427387903 := by
  have := nget_in (b.drop s.1)
  rw [List.length_drop] at this
  unfold rdNum
  dsimp only
  omega
theorem rdText_in (b : List UInt8) (most : Int) (s : Nat × Bool) (h : s.1 ≤ b.length) : (rdText b most s).2.1 ≤ b.length ∧ (rdText b most s).1.length ≤ b.length := by
  have := ntext_in (b.drop s.1) most
  rw [List.length_drop] at this
  unfold rdText
  dsimp only
  omega

set_option maxHeartbeats 1000000 in
theorem on_any (w0 w : World) (rb : Nat) (v : Value) (at_ : Nat) (bad : Bool) (n e : Nat) (h : Rdr w0 w rb v at_ bad) (hl : at_ + n ≤ 100000) :
    Calls Try.prog 50 #[.pointer (some ⟨rb, 0, none⟩), .int .i64 (n : Int), .int .i64 (e : Int)] w fun en w' => (∃ r, en = .returned r) ∧ Rdr w0 w' rb v (at_ + n) (bad || !(e == 0)) ∧ w.grownBy w' (some rb) := by
  have H := Lib.hid h
  have c0 := h.blk.cell (i := 0) rfl
  have c1 := h.blk.cell (i := 1) rfl
  have c2 := h.blk.cell (i := 2) rfl
  have z1 := h.blk.thaw 1
  have z2 := h.blk.thaw 2
  clear h
  have hw1 : IntKind.i64.wrap ((at_ : Int) + (n : Int)) = ((at_ + n : Nat) : Int) := by rw [IntWalk.i64_in _ (by omega)]; omega
  have K : Hid (∀ q : Bool, q = (bad || !(e == 0)) → Rdr w0 ((w.setCell ⟨rb, 1, none⟩ (.int .i64 ((at_ + n : Nat) : Int))).setCell ⟨rb, 2, none⟩ (.bool q)) rb v (at_ + n) (bad || !(e == 0)) ∧ w.grownBy ((w.setCell ⟨rb, 1, none⟩ (.int .i64 ((at_ + n : Nat) : Int))).setCell ⟨rb, 2, none⟩ (.bool q)) (some rb)) := by
    refine Lib.hid fun q hq => ?_
    subst hq
    exact ⟨⟨(H.out.blk.set 1 _).set 2 _, (H.out.ext.setCell (p := ⟨rb, 1, none⟩) H.out.own _).setCell (p := ⟨rb, 2, none⟩) H.out.own _, H.out.own⟩, gb_trans (gb_set _ _ _ _) (gb_set _ _ _ _)⟩
  cases bad
  · by_cases he : e = 0
    · subst he
      go_enter Try.func50, Try.ntmps50
      go_wp2_with fail
      go_end0
      exact ⟨⟨_, rfl⟩, K.out _ rfl⟩
    · have hb : ((e : Int) != 0) = true := by rw [bne_iff_ne]; omega
      have hq := Lib.hid (show true = (false || !(e == 0)) by simp [he])
      clear he
      go_enter Try.func50, Try.ntmps50
      go_wp2_with fail
      go_end0
      exact ⟨⟨_, rfl⟩, K.out _ hq.out⟩
  · go_enter Try.func50, Try.ntmps50
    go_wp2_with fail
    go_end0
    exact ⟨⟨_, rfl⟩, K.out _ rfl⟩

set_option maxHeartbeats 1000000 in
theorem rnum_any (w0 w : World) (rb : Nat) (A : Option Addr) (c : Nat) (b : List UInt8) (at_ : Nat) (bad : Bool) (h : Rdr w0 w rb (.slice A b.length c) at_ bad) (hb : Bs w0 (.slice A b.length c) b) (hat : at_ ≤ b.length) (hbl : b.length ≤ 100000) :
    Calls Try.prog 48 #[.pointer (some ⟨rb, 0, none⟩)] w fun en w' => en = .returned (.int .i64 ((rdNum b (at_, bad)).1 : Int)) ∧ Rdr w0 w' rb (.slice A b.length c) (rdNum b (at_, bad)).2.1 (rdNum b (at_, bad)).2.2 ∧ w.grownBy w' (some rb) := by
  have hcl : b.length ≤ c := by obtain ⟨_, _, e, h1, _⟩ := hb; injection e with _ e1 e2; simp only [List.length_map] at *; omega
  have HB := Lib.hid hb
  have hin := nget_in (b.drop at_)
  rw [List.length_drop] at hin
  have hng := fun v w hv => numGet_any v (b.drop at_) w hv
  unfold rdNum
  dsimp only
  generalize nget (b.drop at_) = g at *
  obtain ⟨x, k, f⟩ := g
  dsimp only at *
  have HNG := Lib.hid hng
  clear hng
  clear hb
  go_enter Try.func48, Try.ntmps48
  go_wp2_with fail
  refine wp_region_mono (by kernel_rfl) (by kernel_rfl) ?_
  refine tele_move rfl (.inl rfl) rfl (isV (.pointer (some ⟨rb, 0, none⟩))) (fun ρ w' h => h) ?_
  refine tele_val rfl (.pointer (some ⟨rb, 0, none⟩)) (fun _ _ _ => rfl) ?_ ?_
  · rintro ρ w' he ⟨h7, -⟩
    have e7 : ρ 7 = .pointer (some ⟨rb, 0, none⟩) := h7
    simp [execOp, evR, e7, go_sem]
  refine tele_val rfl (.pointer (some ⟨rb, 0, none⟩)) (fun _ _ _ => rfl) ?_ ?_
  · rintro ρ w' he ⟨h8, -⟩
    have e8 : ρ 8 = .pointer (some ⟨rb, 0, none⟩) := h8
    simp [execOp, evR, e8, go_sem]
  refine tele_val rfl (.slice A b.length c) (fun _ _ _ => rfl) ?_ ?_
  · rintro ρ w' he ⟨h9, -⟩
    have e9 : ρ 9 = .pointer (some ⟨rb, 0, none⟩) := h9
    have c0 := (h.blk.ext he).cell (i := 0) rfl
    simp [execOp, evR, e9, c0, go_sem]
  refine tele_move rfl (.inl rfl) rfl (isV (.pointer (some ⟨rb, 0, none⟩))) (fun ρ w' h => h) ?_
  refine tele_val rfl (.pointer (some ⟨rb, 0, none⟩)) (fun _ _ _ => rfl) ?_ ?_
  · rintro ρ w' he ⟨h11, -⟩
    have e11 : ρ 11 = .pointer (some ⟨rb, 0, none⟩) := h11
    simp [execOp, evR, e11, go_sem]
  refine tele_val rfl (.pointer (some ⟨rb, 1, none⟩)) (fun _ _ _ => rfl) ?_ ?_
  · rintro ρ w' he ⟨h12, -⟩
    have e12 : ρ 12 = .pointer (some ⟨rb, 0, none⟩) := h12
    simp [execOp, evR, e12, go_sem]
  refine tele_val rfl (.int .i64 (at_ : Int)) (fun _ _ _ => rfl) ?_ ?_
  · rintro ρ w' he ⟨h13, -⟩
    have e13 : ρ 13 = .pointer (some ⟨rb, 1, none⟩) := h13
    have c0 := (h.blk.ext he).cell (i := 1) rfl
    simp [execOp, evR, e13, c0, go_sem]
  refine tele_any rfl (isBs (b.drop at_)) ?_ ?_
  · rintro ρ w' he hk
    rw [if_pos (show wantedR _ _ _ = true from rfl)]
    obtain ⟨h10, h14, -⟩ := hk
    have e10 : ρ 10 = .slice A b.length c := h10
    have e14 : ρ 14 = .int .i64 (at_ : Int) := h14
    rw [exec_bs_from (f := evR ρ) (x := .tmp 10) (y := .tmp 14) rfl e10 e14 hat hcl]
    exact ⟨Ext.refl _, (HB.out.ext (h.ext.trans he)).from_ hat⟩
  refine tele_call rfl rfl Try.func73 (by kernel_rfl) (isV (.tuple #[.int .i64 (x : Int), .int .i64 (k : Int), .int .i64 (f : Int)])) (fun _ _ _ => rfl) ?_ ?_
  · rintro ρ w' he ⟨h15, -⟩
    have e15 : (isBs (b.drop at_)).rel (ρ 15) w' := h15
    simp only [evR, List.map_toArray, List.map_cons, List.map_nil]
    refine (HNG.out _ _ e15).mono ?_
    rintro e w'' ⟨rfl, rfl⟩
    exact ⟨_, rfl, Ext.refl _, rfl⟩
  refine tele_move rfl (.inl rfl) rfl (isV (.tuple #[.int .i64 (x : Int), .int .i64 (k : Int), .int .i64 (f : Int)])) (fun ρ w' h => h) ?_
  refine tele_val rfl (.int .i64 (x : Int)) (fun _ _ _ => rfl) ?_ ?_
  · rintro ρ w' he ⟨h6, -⟩
    have e6 : ρ 6 = .tuple #[.int .i64 (x : Int), .int .i64 (k : Int), .int .i64 (f : Int)] := h6
    simp [execOp, evR, e6, go_sem]
  refine tele_val rfl (.int .i64 (k : Int)) (fun _ _ _ => rfl) ?_ ?_
  · rintro ρ w' he ⟨h6, -⟩
    have e6 : ρ 6 = .tuple #[.int .i64 (x : Int), .int .i64 (k : Int), .int .i64 (f : Int)] := h6
    simp [execOp, evR, e6, go_sem]
  refine tele_val rfl (.int .i64 (f : Int)) (fun _ _ _ => rfl) ?_ ?_
  · rintro ρ w' he ⟨h6, -⟩
    have e6 : ρ 6 = .tuple #[.int .i64 (x : Int), .int .i64 (k : Int), .int .i64 (f : Int)] := h6
    simp [execOp, evR, e6, go_sem]
  refine tele_move rfl (.inr rfl) rfl (isV (.int .i64 (x : Int))) (fun ρ w' h => h) ?_
  refine tele_move rfl (.inr rfl) rfl (isV (.int .i64 (k : Int))) (fun ρ w' h => h) ?_
  refine tele_move rfl (.inr rfl) rfl (isV (.int .i64 (f : Int))) (fun ρ w' h => h) ?_
  refine tele_nil ?_
  rintro ρ w' hext ⟨f5, f4, f3, f19, f18, f17, f6, f16, f15, f14, f13, f12, f11, f10, f9, f8, f7, -⟩
  clear f7
  clear f8
  clear f9
  clear f10
  clear f11
  clear f12
  clear f13
  clear f14
  clear f15
  clear f16
  clear f6
  clear f17
  clear f18
  clear f19
  replace f3 : ρ 3 = .int .i64 (x : Int) := f3
  replace f4 : ρ 4 = .int .i64 (k : Int) := f4
  replace f5 : ρ 5 = .int .i64 (f : Int) := f5
  simp only [puts, Act.put, List.setIfInBounds_toArray, List.set_cons_zero, List.set_cons_succ]
  generalize ρ 3 = v3 at *
  generalize ρ 4 = v4 at *
  generalize ρ 5 = v5 at *
  subst f3 f4 f5
  replace h := h.more hext
  have H := Lib.hid h
  clear h
  go_wp2_with fail
  refine (on_any w0 _ rb _ at_ bad k f H.out (by omega)).mono ?_
  rintro en w2 ⟨⟨r, rfl⟩, h2, hg⟩
  have H2 := Lib.hid h2
  have HG := Lib.hid (gb_trans (gb_ext hext (some rb)) hg)
  clear h2 hg hext
  go_wp2_with fail
  go_ret
  exact ⟨rfl, H2.out, HG.out⟩

set_option maxHeartbeats 1000000 in
theorem rtext_any (w0 w : World) (rb : Nat) (A : Option Addr) (c : Nat) (b : List UInt8) (most : Int) (at_ : Nat) (bad : Bool) (h : Rdr w0 w rb (.slice A b.length c) at_ bad) (hb : Bs w0 (.slice A b.length c) b) (hat : at_ ≤ b.length) (hbl : b.length ≤ 100000)
    (hm : -9223372036854775808 ≤ most ∧ most ≤ 9223372036854775807) :
    Calls Try.prog 74 #[.pointer (some ⟨rb, 0, none⟩), .int .i64 most] w fun en w' => en = .returned (strV (rdText b most (at_, bad)).1) ∧ Rdr w0 w' rb (.slice A b.length c) (rdText b most (at_, bad)).2.1 (rdText b most (at_, bad)).2.2 ∧ w.grownBy w' (some rb) := by
  have hcl : b.length ≤ c := by obtain ⟨_, _, e, h1, _⟩ := hb; injection e with _ e1 e2; simp only [List.length_map] at *; omega
  have HB := Lib.hid hb
  have hin := (ntext_in (b.drop at_) most).1
  rw [List.length_drop] at hin
  have hng := fun v w hv => numGetText_any v (b.drop at_) most w hv hm
  unfold rdText
  dsimp only
  generalize ntext (b.drop at_) most = g at *
  obtain ⟨x, k, f⟩ := g
  dsimp only at *
  have HNG := Lib.hid hng
  clear hng
  clear hb
  go_enter Try.func74, Try.ntmps74
  go_wp2_with fail
  refine wp_region_mono (by kernel_rfl) (by kernel_rfl) ?_
  refine tele_move rfl (.inl rfl) rfl (isV (.pointer (some ⟨rb, 0, none⟩))) (fun ρ w' h => h) ?_
  refine tele_val rfl (.pointer (some ⟨rb, 0, none⟩)) (fun _ _ _ => rfl) ?_ ?_
  · rintro ρ w' he ⟨h9, -⟩
    have e9 : ρ 9 = .pointer (some ⟨rb, 0, none⟩) := h9
    simp [execOp, evR, e9, go_sem]
  refine tele_val rfl (.pointer (some ⟨rb, 0, none⟩)) (fun _ _ _ => rfl) ?_ ?_
  · rintro ρ w' he ⟨h10, -⟩
    have e10 : ρ 10 = .pointer (some ⟨rb, 0, none⟩) := h10
    simp [execOp, evR, e10, go_sem]
  refine tele_val rfl (.slice A b.length c) (fun _ _ _ => rfl) ?_ ?_
  · rintro ρ w' he ⟨h11, -⟩
    have e11 : ρ 11 = .pointer (some ⟨rb, 0, none⟩) := h11
    have c0 := (h.blk.ext he).cell (i := 0) rfl
    simp [execOp, evR, e11, c0, go_sem]
  refine tele_move rfl (.inl rfl) rfl (isV (.pointer (some ⟨rb, 0, none⟩))) (fun ρ w' h => h) ?_
  refine tele_val rfl (.pointer (some ⟨rb, 0, none⟩)) (fun _ _ _ => rfl) ?_ ?_
  · rintro ρ w' he ⟨h13, -⟩
    have e13 : ρ 13 = .pointer (some ⟨rb, 0, none⟩) := h13
    simp [execOp, evR, e13, go_sem]
  refine tele_val rfl (.pointer (some ⟨rb, 1, none⟩)) (fun _ _ _ => rfl) ?_ ?_
  · rintro ρ w' he ⟨h14, -⟩
    have e14 : ρ 14 = .pointer (some ⟨rb, 0, none⟩) := h14
    simp [execOp, evR, e14, go_sem]
  refine tele_val rfl (.int .i64 (at_ : Int)) (fun _ _ _ => rfl) ?_ ?_
  · rintro ρ w' he ⟨h15, -⟩
    have e15 : ρ 15 = .pointer (some ⟨rb, 1, none⟩) := h15
    have c0 := (h.blk.ext he).cell (i := 1) rfl
    simp [execOp, evR, e15, c0, go_sem]
  refine tele_any rfl (isBs (b.drop at_)) ?_ ?_
  · rintro ρ w' he hk
    rw [if_pos (show wantedR _ _ _ = true from rfl)]
    obtain ⟨h12, h16, -⟩ := hk
    have e12 : ρ 12 = .slice A b.length c := h12
    have e16 : ρ 16 = .int .i64 (at_ : Int) := h16
    rw [exec_bs_from (f := evR ρ) (x := .tmp 12) (y := .tmp 16) rfl e12 e16 hat hcl]
    exact ⟨Ext.refl _, (HB.out.ext (h.ext.trans he)).from_ hat⟩
  refine tele_move rfl (.inl rfl) rfl (isV (.int .i64 most)) (fun ρ w' h => h) ?_
  refine tele_call rfl rfl Try.func88 (by kernel_rfl) (isV (.tuple #[strV x, .int .i64 (k : Int), .int .i64 (f : Int)])) (fun _ _ _ => rfl) ?_ ?_
  · rintro ρ w' he ⟨h17, h18, -⟩
    have e17 : (isBs (b.drop at_)).rel (ρ 17) w' := h17
    have e18 : ρ 18 = .int .i64 most := h18
    simp only [evR, List.map_toArray, List.map_cons, List.map_nil, e18]
    refine (HNG.out _ _ e17).mono ?_
    rintro e w'' ⟨rfl, hx⟩
    exact ⟨_, rfl, hx, rfl⟩
  refine tele_move rfl (.inl rfl) rfl (isV (.tuple #[strV x, .int .i64 (k : Int), .int .i64 (f : Int)])) (fun ρ w' h => h) ?_
  refine tele_val rfl (strV x) (fun _ _ _ => rfl) ?_ ?_
  · rintro ρ w' he ⟨h8, -⟩
    have e8 : ρ 8 = .tuple #[strV x, .int .i64 (k : Int), .int .i64 (f : Int)] := h8
    simp [execOp, evR, e8, go_sem]
  refine tele_val rfl (.int .i64 (k : Int)) (fun _ _ _ => rfl) ?_ ?_
  · rintro ρ w' he ⟨h8, -⟩
    have e8 : ρ 8 = .tuple #[strV x, .int .i64 (k : Int), .int .i64 (f : Int)] := h8
    simp [execOp, evR, e8, go_sem]
  refine tele_val rfl (.int .i64 (f : Int)) (fun _ _ _ => rfl) ?_ ?_
  · rintro ρ w' he ⟨h8, -⟩
    have e8 : ρ 8 = .tuple #[strV x, .int .i64 (k : Int), .int .i64 (f : Int)] := h8
    simp [execOp, evR, e8, go_sem]
  refine tele_move rfl (.inr rfl) rfl (isV (strV x)) (fun ρ w' h => h) ?_
  refine tele_move rfl (.inr rfl) rfl (isV (.int .i64 (k : Int))) (fun ρ w' h => h) ?_
  refine tele_move rfl (.inr rfl) rfl (isV (.int .i64 (f : Int))) (fun ρ w' h => h) ?_
  refine tele_nil ?_
  rintro ρ w' hext ⟨f7, f6, f5, f22, f21, f20, f8, f19, f18, f17, f16, f15, f14, f13, f12, f11, f10, f9, -⟩
  clear f9
  clear f10
  clear f11
  clear f12
  clear f13
  clear f14
  clear f15
  clear f16
  clear f17
  clear f18
  clear f19
  clear f8
  clear f20
  clear f21
  clear f22
  replace f5 : ρ 5 = strV x := f5
  replace f6 : ρ 6 = .int .i64 (k : Int) := f6
  replace f7 : ρ 7 = .int .i64 (f : Int) := f7
  simp only [puts, Act.put, List.setIfInBounds_toArray, List.set_cons_zero, List.set_cons_succ]
  generalize ρ 5 = v5 at *
  generalize ρ 6 = v6 at *
  generalize ρ 7 = v7 at *
  subst f5 f6 f7
  replace h := h.more hext
  have H := Lib.hid h
  clear h
  go_wp2_with fail
  refine (on_any w0 _ rb _ at_ bad k f H.out (by omega)).mono ?_
  rintro en w2 ⟨⟨r, rfl⟩, h2, hg⟩
  have H2 := Lib.hid h2
  have HG := Lib.hid (gb_trans (gb_ext hext (some rb)) hg)
  clear h2 hg hext
  go_wp2_with fail
  go_ret
  exact ⟨rfl, H2.out, HG.out⟩
end Go.Proofs.Ytocdifjdeifclaa
