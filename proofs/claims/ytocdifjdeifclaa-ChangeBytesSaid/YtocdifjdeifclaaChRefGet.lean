/-
  The document's reader of changes: a write.
-/
import Derived.Test.YtocdifjdeifclaaChBackPlain
namespace Go.Proofs.Ytocdifjdeifclaa
open Go Go.RowKit Mono Num
set_option linter.unusedVariables false
set_option linter.unusedSimpArgs false
set_option maxRecDepth 10000

def set4 (w : World) (b : Nat) (x0 x1 x2 x3 : Value) : World := (((w.setCell ⟨b, 0, none⟩ x0).setCell ⟨b, 1, none⟩ x1).setCell ⟨b, 2, none⟩ x2).setCell ⟨b, 3, none⟩ x3
theorem set4_blk {w : World} {b : Nat} {y0 y1 y2 y3 : Value} (h : Blk w b [y0, y1, y2, y3]) (x0 x1 x2 x3 : Value) : Blk (set4 w b x0 x1 x2 x3) b [x0, x1, x2, x3] := (((h.set 0 x0).set 1 x1).set 2 x2).set 3 x3
theorem set4_ext {w0 w : World} {b : Nat} (h : Ext w0 w) (hb : w0.heap.size ≤ b) (x0 x1 x2 x3 : Value) : Ext w0 (set4 w b x0 x1 x2 x3) :=
  (((h.setCell (p := ⟨b, 0, none⟩) hb x0).setCell (p := ⟨b, 1, none⟩) hb x1).setCell (p := ⟨b, 2, none⟩) hb x2).setCell (p := ⟨b, 3, none⟩) hb x3
theorem rdNum_was {b : List UInt8} {s : Nat × Bool} (h : (rdNum b s).2.2 = false) : s.2 = false := (bad_or h).1
theorem rdText_was {b : List UInt8} {m : Int} {s : Nat × Bool} (h : (rdText b m s).2.2 = false) : s.2 = false := (bad_or h).1
/-- When a write was read. -/
theorem rdWrite_ok {b : List UInt8} {s : Nat × Bool} (h : (rdWrite b s).2.2 = false) : (rdText b 32 s).2.2 = false ∧ (rdNum b (rdText b 32 s).2).2.2 = false ∧ (rdNum b (rdNum b (rdText b 32 s).2).2).2.2 = false ∧
    (((rdNum b (rdNum b (rdText b 32 s).2).2).1 = 0 ∧ (rdText b 64 (rdNum b (rdNum b (rdText b 32 s).2).2).2).2.2 = false) ∨ (rdNum b (rdNum b (rdText b 32 s).2).2).1 = 1) := by
  unfold rdWrite at h
  dsimp only at h
  by_cases h0 : (rdNum b (rdNum b (rdText b 32 s).2).2).1 = 0
  · rw [if_pos h0] at h
    have h3 := rdText_was h
    have h2 := rdNum_was h3
    exact ⟨rdNum_was h2, h2, h3, .inl ⟨h0, h⟩⟩
  · rw [if_neg h0] at h
    by_cases h1 : (rdNum b (rdNum b (rdText b 32 s).2).2).1 = 1
    · rw [if_pos h1] at h
      have h2 := rdNum_was h
      exact ⟨rdNum_was h2, h2, h, .inr h1⟩
    · rw [if_neg h1] at h
      cases h
/-- What the document's reader tells of a write. -/
def WGot (b : List UInt8) (y : Wr) (n : Nat) (ok : Bool) : Prop := (ok = true → rdWrite b (0, false) = (y, n, false)) ∧ (ok = false → (rdWrite b (0, false)).2.2 = true)
theorem WGot.bad {b : List UInt8} {y : Wr} {n : Nat} (h : (rdWrite b (0, false)).2.2 = false → False) : WGot b y n false := by
  refine ⟨fun h => (by cases h), fun _ => ?_⟩
  cases hq : (rdWrite b (0, false)).2.2
  · exact (h hq).elim
  · rfl
theorem WGot.good {b : List UInt8} {y : Wr} {n : Nat} (h : rdWrite b (0, false) = (y, n, false)) : WGot b y n true := ⟨fun _ => h, fun h => (by cases h)⟩

set_option maxHeartbeats 4000000 in
theorem rget_any (A : Option Addr) (c : Nat) (b : List UInt8) (w : World) (hb : Bs w (.slice A b.length c) b) (hbl : b.length ≤ 100000) :
    Calls Try.prog 78 #[.slice A b.length c] w fun en w' => ∃ (y : Wr) (n : Nat) (ok : Bool), en = .returned (.tuple #[.agg #[strV y.key, .int .i64 y.group, .bool y.gone, strV y.value], .int .i64 (n : Int), .bool ok]) ∧ WGot b y n ok ∧ Ext w w' := by
  obtain ⟨k, n1, e1, h1⟩ : ∃ x y z, ntext b 32 = (x, y, z) := ⟨_, _, _, rfl⟩
  have i1 := (ntext_in b 32).1
  rw [h1] at i1
  dsimp only at i1
  have T1 := fun v w h => refGetText_any v b 32 w h (by omega)
  rw [h1] at T1
  obtain ⟨g, n2, e2, h2⟩ : ∃ x y z, nget (b.drop n1) = (x, y, z) := ⟨_, _, _, rfl⟩
  have i2 := nget_in (b.drop n1)
  rw [h2, List.length_drop] at i2
  dsimp only at i2
  have T2 := fun v w h => refGet_any v (b.drop n1) w h
  rw [h2] at T2
  obtain ⟨p2, hp2⟩ : ∃ p, p = n1 + n2 := ⟨_, rfl⟩
  have le2 : p2 ≤ b.length := by omega
  obtain ⟨t, n3, e3, h3⟩ : ∃ x y z, nget (b.drop p2) = (x, y, z) := ⟨_, _, _, rfl⟩
  have i3 := nget_in (b.drop p2)
  rw [h3, List.length_drop] at i3
  dsimp only at i3
  have T3 := fun v w h => refGet_any v (b.drop p2) w h
  rw [h3] at T3
  obtain ⟨p3, hp3⟩ : ∃ p, p = p2 + n3 := ⟨_, rfl⟩
  have le3 : p3 ≤ b.length := by omega
  obtain ⟨z, n4, e4, h4⟩ : ∃ x y z, ntext (b.drop p3) 64 = (x, y, z) := ⟨_, _, _, rfl⟩
  have i4 := (ntext_in (b.drop p3) 64).1
  rw [h4, List.length_drop] at i4
  dsimp only at i4
  have T4 := fun v w h => refGetText_any v (b.drop p3) 64 w h (by omega)
  rw [h4] at T4
  obtain ⟨p4, hp4⟩ : ∃ p, p = p3 + n4 := ⟨_, rfl⟩
  have r1 : rdText b 32 (0, false) = (k, n1, !(e1 == 0)) := by unfold rdText; simp only [List.drop_zero, h1, Nat.zero_add, Bool.false_or]
  have r2 : rdNum b (n1, !(e1 == 0)) = (g, p2, (!(e1 == 0)) || !(e2 == 0)) := by unfold rdNum; simp only [h2, hp2]
  have r3 : rdNum b (p2, (!(e1 == 0)) || !(e2 == 0)) = (t, p3, (!(e1 == 0)) || !(e2 == 0) || !(e3 == 0)) := by unfold rdNum; simp only [h3, hp3]
  have r4 : rdText b 64 (p3, (!(e1 == 0)) || !(e2 == 0) || !(e3 == 0)) = (z, p4, (!(e1 == 0)) || !(e2 == 0) || !(e3 == 0) || !(e4 == 0)) := by unfold rdText; simp only [h4, hp4]
  have hok : (rdWrite b (0, false)).2.2 = false → e1 = 0 ∧ e2 = 0 ∧ e3 = 0 ∧ (t = 0 ∧ e4 = 0 ∨ t = 1) := fun hh => by
    have := rdWrite_ok hh
    simp only [r1, r2, r3, r4] at this
    obtain ⟨q1, q2, q3, q4⟩ := this
    obtain ⟨q2a, q2b⟩ := bad_or q2
    obtain ⟨q3a, q3b⟩ := bad_or q3
    refine ⟨beq_zero q1, beq_zero q2b, beq_zero q3b, ?_⟩
    rcases q4 with ⟨q4, q5⟩ | q4
    · exact .inl ⟨q4, beq_zero (bad_or q5).2⟩
    · exact .inr q4
  have hg0 : e1 = 0 → e2 = 0 → e3 = 0 → t = 0 → e4 = 0 → rdWrite b (0, false) = (⟨k, g, false, z⟩, p4, false) := fun a1 a2 a3 a4 a5 => by
    unfold rdWrite
    simp only [r1, r2, r3, r4]
    rw [if_pos a4, a1, a2, a3, a5]
    rfl
  have hg1 : e1 = 0 → e2 = 0 → e3 = 0 → t = 1 → rdWrite b (0, false) = (⟨k, g, true, []⟩, p3, false) := fun a1 a2 a3 a4 => by
    unfold rdWrite
    simp only [r1, r2, r3, r4]
    rw [if_neg (by omega), if_pos a4, a1, a2, a3]
    rfl
  have HOK := Lib.hid hok
  have HG0 := Lib.hid hg0
  have HG1 := Lib.hid hg1
  have HP2 := Lib.hid hp2
  have HP3 := Lib.hid hp3
  have HP4 := Lib.hid hp4
  clear hok hg0 hg1 r1 r2 r3 r4 h1 h2 h3 h4 hp2 hp3 hp4
  unfold strV at T1 T4
  have t1 := Lib.hid T1
  have t2 := Lib.hid T2
  have t3 := Lib.hid T3
  have t4 := Lib.hid T4
  have HB := Lib.hid hb
  clear T1 T2 T3 T4 hb
  have hcl : b.length ≤ c ∧ c ≤ 9223372036854775807 := by
    obtain ⟨_, _, e, q1, q2, _⟩ := HB.out
    injection e with _ e1 e2
    simp only [List.length_map] at *
    unfold maxLen at q2
    omega
  obtain ⟨hcl, hc9⟩ := hcl
  obtain ⟨SL1, sa1, sb1, hs1⟩ := slice_from_run A b.length c n1 i1
  obtain ⟨SL2, sa2, sb2, hs2⟩ := slice_from_run A b.length c p2 le2
  obtain ⟨SL3, sa3, sb3, hs3⟩ := slice_from_run A b.length c p3 le3
  have S1 := Lib.hid hs1
  have S2 := Lib.hid hs2
  have S3 := Lib.hid hs3
  have SA1 := Lib.hid (And.intro sa1 sb1)
  have SA2 := Lib.hid (And.intro sa2 sb2)
  have SA3 := Lib.hid (And.intro sa3 sb3)
  clear hs1 hs2 hs3 sa1 sb1 sa2 sb2 sa3 sb3
  go_enter Try.func78, Try.ntmps78
  go_wp2_with fail
  have bn := (Blk.new w #[.string ⟨#[]⟩, .int .i64 0, .bool false, .string ⟨#[]⟩] 31).ext (ext_alloc _ (.cells #[.string ⟨#[]⟩, .int .i64 0, .bool false, .string ⟨#[]⟩] 31))
  have bc := Blk.new (w.alloc (.cells #[.string ⟨#[]⟩, .int .i64 0, .bool false, .string ⟨#[]⟩] 31)) #[.string ⟨#[]⟩, .int .i64 0, .bool false, .string ⟨#[]⟩] 31
  have hx := (ext_alloc w (.cells #[.string ⟨#[]⟩, .int .i64 0, .bool false, .string ⟨#[]⟩] 31)).trans (ext_alloc _ (.cells #[.string ⟨#[]⟩, .int .i64 0, .bool false, .string ⟨#[]⟩] 31))
  simp only [World.size_alloc] at bc
  obtain ⟨nb, hnb⟩ : ∃ n, n = w.heap.size := ⟨_, rfl⟩
  obtain ⟨cb, hcb⟩ : ∃ n, n = w.heap.size + 1 := ⟨_, rfl⟩
  rw [← hnb] at bn
  rw [← hcb] at bc
  rw [← hnb]
  have HNE := Lib.hid (show ¬ cb = nb by omega)
  have HNW := Lib.hid (show w.heap.size ≤ nb by omega)
  have HCW := Lib.hid (show w.heap.size ≤ cb by omega)
  have hcb' : w.heap.size + 1 = cb := hcb.symm
  have hnb' : nb + 1 = cb := by omega
  try rw [hcb']
  try rw [hnb']
  clear hnb hcb hcb' hnb'
  generalize (w.alloc (.cells #[.string ⟨#[]⟩, .int .i64 0, .bool false, .string ⟨#[]⟩] 31)).alloc (.cells #[.string ⟨#[]⟩, .int .i64 0, .bool false, .string ⟨#[]⟩] 31) = W at *
  refine (t1.out _ _ (HB.out.ext hx)).mono ?_
  rintro en w1 ⟨rfl, x1⟩
  replace hx := Ext.trans hx x1
  replace bn := bn.ext x1
  replace bc := bc.ext x1
  clear x1 t1
  by_cases a1 : e1 = 0
  rotate_left
  · have hb0 : ((e1 : Int) != 0) = true := by rw [bne_iff_ne]; omega
    have A1 := Lib.hid a1
    clear a1
    have f0 := bn.cell (i := 0) rfl
    have fz0 := bn.thaw 0
    have f1 := bn.cell (i := 1) rfl
    have fz1 := bn.thaw 1
    have f2 := bn.cell (i := 2) rfl
    have fz2 := bn.thaw 2
    have f3 := bn.cell (i := 3) rfl
    have fz3 := bn.thaw 3
    have g0 := bc.cell (i := 0) rfl
    have gz0 := bc.thaw 0
    have g1 := bc.cell (i := 1) rfl
    have gz1 := bc.thaw 1
    have g2 := bc.cell (i := 2) rfl
    have gz2 := bc.thaw 2
    have g3 := bc.cell (i := 3) rfl
    have gz3 := bc.thaw 3
    have hne := HNE.out
    go_wp2_with fail
    have bf := set4_blk bn (.string ⟨#[]⟩) (.int .i64 0) (.bool false) (.string ⟨#[]⟩)
    have d0 := bf.cell (i := 0) rfl
    have d1 := bf.cell (i := 1) rfl
    have d2 := bf.cell (i := 2) rfl
    have d3 := bf.cell (i := 3) rfl
    have xf := set4_ext hx HNW.out (.string ⟨#[]⟩) (.int .i64 0) (.bool false) (.string ⟨#[]⟩)
    unfold set4 at d0 d1 d2 d3 xf
    exact bodyPost_ret (v := .tuple #[.agg #[.string ⟨#[]⟩, .int .i64 0, .bool false, .string ⟨#[]⟩], .int .i64 0, .bool false]) (by simp [results, Try.results78, d0, d1, d2, d3, go_sem]) rfl ⟨⟨([] : List UInt8), 0, false, ([] : List UInt8)⟩, 0, false, rfl, WGot.bad fun hh => A1.out (HOK.out hh).1, xf⟩
  subst a1
  have g0 := bc.cell (i := 0) rfl
  have gz0 := bc.thaw 0
  have g1 := bc.cell (i := 1) rfl
  have gz1 := bc.thaw 1
  have g2 := bc.cell (i := 2) rfl
  have gz2 := bc.thaw 2
  have g3 := bc.cell (i := 3) rfl
  have gz3 := bc.thaw 3
  obtain ⟨sa1, sb1⟩ := SA1.out
  go_wp2_with fail
  clear sa1 sb1
  clear g0 gz0 g1 gz1 g2 gz2 g3 gz3
  replace bc := bc.set 0 (.string ⟨k.toArray⟩)
  replace bn := bn.apart (a := ⟨cb, 0, none⟩) (.string ⟨k.toArray⟩) (fun e => HNE.out e.symm)
  replace hx := hx.setCell (p := ⟨cb, 0, none⟩) HCW.out (.string ⟨k.toArray⟩)
  simp only [List.set_cons_zero, List.set_cons_succ] at bc
  generalize w1.setCell ⟨cb, 0, none⟩ (.string ⟨k.toArray⟩) = W1 at *
  have hx : Ext w W1 := hx
  refine (t2.out _ _ (S1.out _ _ (HB.out.ext hx))).mono ?_
  rintro en w2 ⟨rfl, rfl⟩
  clear t2 S1 SA1
  by_cases a2 : e2 = 0
  rotate_left
  · have hb0 : ((e2 : Int) != 0) = true := by rw [bne_iff_ne]; omega
    have A2 := Lib.hid a2
    clear a2
    have f0 := bn.cell (i := 0) rfl
    have fz0 := bn.thaw 0
    have f1 := bn.cell (i := 1) rfl
    have fz1 := bn.thaw 1
    have f2 := bn.cell (i := 2) rfl
    have fz2 := bn.thaw 2
    have f3 := bn.cell (i := 3) rfl
    have fz3 := bn.thaw 3
    have g0 := bc.cell (i := 0) rfl
    have gz0 := bc.thaw 0
    have g1 := bc.cell (i := 1) rfl
    have gz1 := bc.thaw 1
    have g2 := bc.cell (i := 2) rfl
    have gz2 := bc.thaw 2
    have g3 := bc.cell (i := 3) rfl
    have gz3 := bc.thaw 3
    have hne := HNE.out
    go_wp2_with fail
    have bf := set4_blk bn (.string ⟨k.toArray⟩) (.int .i64 0) (.bool false) (.string ⟨#[]⟩)
    have d0 := bf.cell (i := 0) rfl
    have d1 := bf.cell (i := 1) rfl
    have d2 := bf.cell (i := 2) rfl
    have d3 := bf.cell (i := 3) rfl
    have xf := set4_ext hx HNW.out (.string ⟨k.toArray⟩) (.int .i64 0) (.bool false) (.string ⟨#[]⟩)
    unfold set4 at d0 d1 d2 d3 xf
    exact bodyPost_ret (v := .tuple #[.agg #[.string ⟨k.toArray⟩, .int .i64 0, .bool false, .string ⟨#[]⟩], .int .i64 0, .bool false]) (by simp [results, Try.results78, d0, d1, d2, d3, go_sem]) rfl ⟨⟨k, 0, false, ([] : List UInt8)⟩, 0, false, rfl, WGot.bad fun hh => A2.out (HOK.out hh).2.1, xf⟩
  subst a2
  have hw2 : IntKind.i64.wrap ((n1 : Int) + (n2 : Int)) = (p2 : Int) := by rw [IntWalk.i64_in _ (by have := HP2.out; omega)]; have := HP2.out; omega
  have g0 := bc.cell (i := 0) rfl
  have gz0 := bc.thaw 0
  have g1 := bc.cell (i := 1) rfl
  have gz1 := bc.thaw 1
  have g2 := bc.cell (i := 2) rfl
  have gz2 := bc.thaw 2
  have g3 := bc.cell (i := 3) rfl
  have gz3 := bc.thaw 3
  obtain ⟨sa1, sb1⟩ := SA2.out
  go_wp2_with fail
  clear sa1 sb1 hw2
  clear g0 gz0 g1 gz1 g2 gz2 g3 gz3
  replace bc := bc.set 1 (.int .i64 (g : Int))
  replace bn := bn.apart (a := ⟨cb, 1, none⟩) (.int .i64 (g : Int)) (fun e => HNE.out e.symm)
  replace hx := hx.setCell (p := ⟨cb, 1, none⟩) HCW.out (.int .i64 (g : Int))
  simp only [List.set_cons_zero, List.set_cons_succ] at bc
  generalize W1.setCell ⟨cb, 1, none⟩ (.int .i64 (g : Int)) = W2 at *
  have hx : Ext w W2 := hx
  refine (t3.out _ _ (S2.out _ _ (HB.out.ext hx))).mono ?_
  rintro en w3 ⟨rfl, rfl⟩
  clear t3 S2 SA2
  by_cases a3 : e3 = 0
  rotate_left
  · have hb0 : ((e3 : Int) != 0) = true := by rw [bne_iff_ne]; omega
    have A3 := Lib.hid a3
    clear a3
    have f0 := bn.cell (i := 0) rfl
    have fz0 := bn.thaw 0
    have f1 := bn.cell (i := 1) rfl
    have fz1 := bn.thaw 1
    have f2 := bn.cell (i := 2) rfl
    have fz2 := bn.thaw 2
    have f3 := bn.cell (i := 3) rfl
    have fz3 := bn.thaw 3
    have g0 := bc.cell (i := 0) rfl
    have gz0 := bc.thaw 0
    have g1 := bc.cell (i := 1) rfl
    have gz1 := bc.thaw 1
    have g2 := bc.cell (i := 2) rfl
    have gz2 := bc.thaw 2
    have g3 := bc.cell (i := 3) rfl
    have gz3 := bc.thaw 3
    have hne := HNE.out
    go_wp2_with fail
    have bf := set4_blk bn (.string ⟨k.toArray⟩) (.int .i64 (g : Int)) (.bool false) (.string ⟨#[]⟩)
    have d0 := bf.cell (i := 0) rfl
    have d1 := bf.cell (i := 1) rfl
    have d2 := bf.cell (i := 2) rfl
    have d3 := bf.cell (i := 3) rfl
    have xf := set4_ext hx HNW.out (.string ⟨k.toArray⟩) (.int .i64 (g : Int)) (.bool false) (.string ⟨#[]⟩)
    unfold set4 at d0 d1 d2 d3 xf
    exact bodyPost_ret (v := .tuple #[.agg #[.string ⟨k.toArray⟩, .int .i64 (g : Int), .bool false, .string ⟨#[]⟩], .int .i64 0, .bool false]) (by simp [results, Try.results78, d0, d1, d2, d3, go_sem]) rfl ⟨⟨k, (g : Int), false, ([] : List UInt8)⟩, 0, false, rfl, WGot.bad fun hh => A3.out (HOK.out hh).2.2.1, xf⟩
  subst a3
  by_cases hbig : 1 < t
  · have hb0 : (1 : Int) < (t : Int) := by omega
    have AB := Lib.hid hbig
    clear hbig
    have f0 := bn.cell (i := 0) rfl
    have fz0 := bn.thaw 0
    have f1 := bn.cell (i := 1) rfl
    have fz1 := bn.thaw 1
    have f2 := bn.cell (i := 2) rfl
    have fz2 := bn.thaw 2
    have f3 := bn.cell (i := 3) rfl
    have fz3 := bn.thaw 3
    have g0 := bc.cell (i := 0) rfl
    have gz0 := bc.thaw 0
    have g1 := bc.cell (i := 1) rfl
    have gz1 := bc.thaw 1
    have g2 := bc.cell (i := 2) rfl
    have gz2 := bc.thaw 2
    have g3 := bc.cell (i := 3) rfl
    have gz3 := bc.thaw 3
    have hne := HNE.out
    go_wp2_with fail
    have bf := set4_blk bn (.string ⟨k.toArray⟩) (.int .i64 (g : Int)) (.bool false) (.string ⟨#[]⟩)
    have d0 := bf.cell (i := 0) rfl
    have d1 := bf.cell (i := 1) rfl
    have d2 := bf.cell (i := 2) rfl
    have d3 := bf.cell (i := 3) rfl
    have xf := set4_ext hx HNW.out (.string ⟨k.toArray⟩) (.int .i64 (g : Int)) (.bool false) (.string ⟨#[]⟩)
    unfold set4 at d0 d1 d2 d3 xf
    exact bodyPost_ret (v := .tuple #[.agg #[.string ⟨k.toArray⟩, .int .i64 (g : Int), .bool false, .string ⟨#[]⟩], .int .i64 0, .bool false]) (by simp [results, Try.results78, d0, d1, d2, d3, go_sem]) rfl ⟨⟨k, (g : Int), false, ([] : List UInt8)⟩, 0, false, rfl, WGot.bad fun hh => by have h1 := (HOK.out hh).2.2.2; have h2 := AB.out; omega, xf⟩
  have hb0 : ¬ (1 : Int) < (t : Int) := by omega
  have hw3 : IntKind.i64.wrap ((p2 : Int) + (n3 : Int)) = (p3 : Int) := by rw [IntWalk.i64_in _ (by have := HP3.out; omega)]; have := HP3.out; omega
  rcases Nat.eq_zero_or_pos t with ht | ht
  · subst ht
    have g0 := bc.cell (i := 0) rfl
    have gz0 := bc.thaw 0
    have g1 := bc.cell (i := 1) rfl
    have gz1 := bc.thaw 1
    have g2 := bc.cell (i := 2) rfl
    have gz2 := bc.thaw 2
    have g3 := bc.cell (i := 3) rfl
    have gz3 := bc.thaw 3
    obtain ⟨sa1, sb1⟩ := SA3.out
    go_wp2_with fail
    clear sa1 sb1 hw3
    clear g0 gz0 g1 gz1 g2 gz2 g3 gz3
    replace bc := bc.set 2 (.bool false)
    replace bn := bn.apart (a := ⟨cb, 2, none⟩) (.bool false) (fun e => HNE.out e.symm)
    replace hx := hx.setCell (p := ⟨cb, 2, none⟩) HCW.out (.bool false)
    simp only [List.set_cons_zero, List.set_cons_succ] at bc
    generalize W2.setCell ⟨cb, 2, none⟩ (.bool false) = W3 at *
    have hx : Ext w W3 := hx
    refine (t4.out _ _ (S3.out _ _ (HB.out.ext hx))).mono ?_
    rintro en w4 ⟨rfl, x4⟩
    replace hx := Ext.trans hx x4
    replace bn := bn.ext x4
    replace bc := bc.ext x4
    clear x4 t4 S3 SA3
    by_cases a4 : e4 = 0
    rotate_left
    · have hb0 : ((e4 : Int) != 0) = true := by rw [bne_iff_ne]; omega
      have A4 := Lib.hid a4
      clear a4
      have f0 := bn.cell (i := 0) rfl
      have fz0 := bn.thaw 0
      have f1 := bn.cell (i := 1) rfl
      have fz1 := bn.thaw 1
      have f2 := bn.cell (i := 2) rfl
      have fz2 := bn.thaw 2
      have f3 := bn.cell (i := 3) rfl
      have fz3 := bn.thaw 3
      have g0 := bc.cell (i := 0) rfl
      have gz0 := bc.thaw 0
      have g1 := bc.cell (i := 1) rfl
      have gz1 := bc.thaw 1
      have g2 := bc.cell (i := 2) rfl
      have gz2 := bc.thaw 2
      have g3 := bc.cell (i := 3) rfl
      have gz3 := bc.thaw 3
      have hne := HNE.out
      go_wp2_with fail
      have bf := set4_blk bn (.string ⟨k.toArray⟩) (.int .i64 (g : Int)) (.bool false) (.string ⟨#[]⟩)
      have d0 := bf.cell (i := 0) rfl
      have d1 := bf.cell (i := 1) rfl
      have d2 := bf.cell (i := 2) rfl
      have d3 := bf.cell (i := 3) rfl
      have xf := set4_ext hx HNW.out (.string ⟨k.toArray⟩) (.int .i64 (g : Int)) (.bool false) (.string ⟨#[]⟩)
      unfold set4 at d0 d1 d2 d3 xf
      exact bodyPost_ret (v := .tuple #[.agg #[.string ⟨k.toArray⟩, .int .i64 (g : Int), .bool false, .string ⟨#[]⟩], .int .i64 0, .bool false]) (by simp [results, Try.results78, d0, d1, d2, d3, go_sem]) rfl ⟨⟨k, (g : Int), false, ([] : List UInt8)⟩, 0, false, rfl, WGot.bad fun hh => by have h1 := (HOK.out hh).2.2.2; have h2 := A4.out; omega, xf⟩
    subst a4
    have hw4 : IntKind.i64.wrap ((p3 : Int) + (n4 : Int)) = (p4 : Int) := by rw [IntWalk.i64_in _ (by have := HP4.out; omega)]; have := HP4.out; omega
    have HBC : Hid (Blk (w4.setCell ⟨cb, 3, none⟩ (.string ⟨z.toArray⟩)) cb [.string ⟨k.toArray⟩, .int .i64 (g : Int), .bool false, .string ⟨z.toArray⟩]) := Lib.hid (bc.set 3 (.string ⟨z.toArray⟩))
    have HBN : Hid (Blk (w4.setCell ⟨cb, 3, none⟩ (.string ⟨z.toArray⟩)) nb [.string ⟨#[]⟩, .int .i64 0, .bool false, .string ⟨#[]⟩]) := Lib.hid (bn.apart (a := ⟨cb, 3, none⟩) (.string ⟨z.toArray⟩) (fun e => HNE.out e.symm))
    have HX : Hid (Ext w (w4.setCell ⟨cb, 3, none⟩ (.string ⟨z.toArray⟩))) := Lib.hid (hx.setCell (p := ⟨cb, 3, none⟩) HCW.out (.string ⟨z.toArray⟩))
    have g0 := bc.cell (i := 0) rfl
    have gz0 := bc.thaw 0
    have g1 := bc.cell (i := 1) rfl
    have gz1 := bc.thaw 1
    have g2 := bc.cell (i := 2) rfl
    have gz2 := bc.thaw 2
    have g3 := bc.cell (i := 3) rfl
    have gz3 := bc.thaw 3
    have m0 := (HBC.out).cell (i := 0) rfl
    have mz0 := (HBC.out).thaw 0
    have q0 := (HBN.out).cell (i := 0) rfl
    have qz0 := (HBN.out).thaw 0
    have m1 := (HBC.out).cell (i := 1) rfl
    have mz1 := (HBC.out).thaw 1
    have q1 := (HBN.out).cell (i := 1) rfl
    have qz1 := (HBN.out).thaw 1
    have m2 := (HBC.out).cell (i := 2) rfl
    have mz2 := (HBC.out).thaw 2
    have q2 := (HBN.out).cell (i := 2) rfl
    have qz2 := (HBN.out).thaw 2
    have m3 := (HBC.out).cell (i := 3) rfl
    have mz3 := (HBC.out).thaw 3
    have q3 := (HBN.out).cell (i := 3) rfl
    have qz3 := (HBN.out).thaw 3
    have hne := HNE.out
    go_wp2_with fail
    have bf := set4_blk HBN.out (.string ⟨k.toArray⟩) (.int .i64 (g : Int)) (.bool false) (.string ⟨z.toArray⟩)
    have d0 := bf.cell (i := 0) rfl
    have d1 := bf.cell (i := 1) rfl
    have d2 := bf.cell (i := 2) rfl
    have d3 := bf.cell (i := 3) rfl
    have xf := set4_ext HX.out HNW.out (.string ⟨k.toArray⟩) (.int .i64 (g : Int)) (.bool false) (.string ⟨z.toArray⟩)
    unfold set4 at d0 d1 d2 d3 xf
    exact bodyPost_ret (v := .tuple #[.agg #[.string ⟨k.toArray⟩, .int .i64 (g : Int), .bool false, .string ⟨z.toArray⟩], .int .i64 (p4 : Int), .bool true]) (by simp [results, Try.results78, d0, d1, d2, d3, go_sem]) rfl ⟨⟨k, (g : Int), false, z⟩, p4, true, rfl, WGot.good (HG0.out (by simp) (by simp) (by simp) (by simp) (by simp)), xf⟩
  · obtain rfl : t = 1 := by omega
    have HBC : Hid (Blk (W2.setCell ⟨cb, 2, none⟩ (.bool true)) cb [.string ⟨k.toArray⟩, .int .i64 (g : Int), .bool true, .string ⟨#[]⟩]) := Lib.hid (bc.set 2 (.bool true))
    have HBN : Hid (Blk (W2.setCell ⟨cb, 2, none⟩ (.bool true)) nb [.string ⟨#[]⟩, .int .i64 0, .bool false, .string ⟨#[]⟩]) := Lib.hid (bn.apart (a := ⟨cb, 2, none⟩) (.bool true) (fun e => HNE.out e.symm))
    have HX : Hid (Ext w (W2.setCell ⟨cb, 2, none⟩ (.bool true))) := Lib.hid (hx.setCell (p := ⟨cb, 2, none⟩) HCW.out (.bool true))
    have g0 := bc.cell (i := 0) rfl
    have gz0 := bc.thaw 0
    have g1 := bc.cell (i := 1) rfl
    have gz1 := bc.thaw 1
    have g2 := bc.cell (i := 2) rfl
    have gz2 := bc.thaw 2
    have g3 := bc.cell (i := 3) rfl
    have gz3 := bc.thaw 3
    have m0 := (HBC.out).cell (i := 0) rfl
    have mz0 := (HBC.out).thaw 0
    have q0 := (HBN.out).cell (i := 0) rfl
    have qz0 := (HBN.out).thaw 0
    have m1 := (HBC.out).cell (i := 1) rfl
    have mz1 := (HBC.out).thaw 1
    have q1 := (HBN.out).cell (i := 1) rfl
    have qz1 := (HBN.out).thaw 1
    have m2 := (HBC.out).cell (i := 2) rfl
    have mz2 := (HBC.out).thaw 2
    have q2 := (HBN.out).cell (i := 2) rfl
    have qz2 := (HBN.out).thaw 2
    have m3 := (HBC.out).cell (i := 3) rfl
    have mz3 := (HBC.out).thaw 3
    have q3 := (HBN.out).cell (i := 3) rfl
    have qz3 := (HBN.out).thaw 3
    have hne := HNE.out
    go_wp2_with fail
    have bf := set4_blk HBN.out (.string ⟨k.toArray⟩) (.int .i64 (g : Int)) (.bool true) (.string ⟨#[]⟩)
    have d0 := bf.cell (i := 0) rfl
    have d1 := bf.cell (i := 1) rfl
    have d2 := bf.cell (i := 2) rfl
    have d3 := bf.cell (i := 3) rfl
    have xf := set4_ext HX.out HNW.out (.string ⟨k.toArray⟩) (.int .i64 (g : Int)) (.bool true) (.string ⟨#[]⟩)
    unfold set4 at d0 d1 d2 d3 xf
    exact bodyPost_ret (v := .tuple #[.agg #[.string ⟨k.toArray⟩, .int .i64 (g : Int), .bool true, .string ⟨#[]⟩], .int .i64 (p3 : Int), .bool true]) (by simp [results, Try.results78, d0, d1, d2, d3, go_sem]) rfl ⟨⟨k, (g : Int), true, ([] : List UInt8)⟩, p3, true, rfl, WGot.good (HG1.out (by simp) (by simp) (by simp) (by simp)), xf⟩
end Go.Proofs.Ytocdifjdeifclaa
