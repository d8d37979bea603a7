/-
  The document's reader of changes: a write.
-/
import Derived.Test.YtacabcpjaadijaaDoorChGet
namespace Go.Proofs.YtacabcpjaadijaaDoor
open Go Go.RowKit Mono Num
set_option linter.unusedVariables false
set_option linter.unusedSimpArgs false
set_option maxRecDepth 10000

def set4 (w : World) (b : Nat) (x0 x1 x2 x3 : Value) : World := (((w.setCell ⟨b, 0, none⟩ x0).setCell ⟨b, 1, none⟩ x1).setCell ⟨b, 2, none⟩ x2).setCell ⟨b, 3, none⟩ x3
theorem set4_blk {w : World} {b : Nat} {y0 y1 y2 y3 : Value} (h : Blk w b [y0, y1, y2, y3]) (x0 x1 x2 x3 : Value) : Blk (set4 w b x0 x1 x2 x3) b [x0, x1, x2, x3] := (((h.set 0 x0).set 1 x1).set 2 x2).set 3 x3
theorem set4_ext {w0 w : World} {b : Nat} (h : Ext w0 w) (hb : w0.heap.size ≤ b) (x0 x1 x2 x3 : Value) : Ext w0 (set4 w b x0 x1 x2 x3) :=
  (((h.setCell (p := ⟨b, 0, none⟩) hb x0).setCell (p := ⟨b, 1, none⟩) hb x1).setCell (p := ⟨b, 2, none⟩) hb x2).setCell (p := ⟨b, 3, none⟩) hb x3
theorem rdNum_was {b : List UInt8} {s : Nat × Bool} (h : (rdNum b s).2.2 = false) : s.2 = false := (bad_or h).1
theorem rdText_was {b : List UInt8} {m : Int} {s : Nat × Bool} (h : (rdText b m s).2.2 = false) : s.2 = false := (bad_or h).1
/-- When a write was read. -/
theorem rdWrite_ok {b : List UInt8} {s : Nat × Bool} (h : (rdWrite b s).2.2 = false) : (rdText b 32 s).2.2 = false ∧ (rdNum b (rdText b 32 s).2).2.2 = false ∧ (rdNum b (rdNum b (rdText b 32 s).2).2).2.2 = false ∧
    (((rdNum b (rdNum b (rdText b 32 s).2).2).1 = 0 ∧ (rdText b 64 (rdNum b (rdNum b (rdText b 32 s).2).2).2).2.2 = false) ∨ (rdNum b (rdNum b (rdText b 32 s).2).2).1 = 1) := by
  unfold rdWrite at h
  dsimp only at h
  by_cases h0 : (rdNum b (rdNum b (rdText b 32 s).2).2).1 = 0
  · rw [if_pos h0] at h
    have h3 := rdText_was h
    have h2 := rdNum_was h3
    exact ⟨rdNum_was h2, h2, h3, .inl ⟨h0, h⟩⟩
  · rw [if_neg h0] at h
    by_cases h1 : (rdNum b (rdNum b (rdText b 32 s).2).2).1 = 1
    · rw [if_pos h1] at h
      have h2 := rdNum_was h
      exact ⟨rdNum_was h2, h2, h, .inr h1⟩
    · rw [if_neg h1] at h
      cases h
/-- What the document's reader tells of a write. -/
def WGot (b : List UInt8) (y : Wr) (n : Nat) (ok : Bool) : Prop := (ok = true → rdWrite b (0, false) = (y, n, false)) ∧ (ok = false → (rdWrite b (0, false)).2.2 = true)
theorem WGot.bad {b : List UInt8} {y : Wr} {n : Nat} (h : (rdWrite b (0, false)).2.2 = false → False) : WGot b y n false := by
  refine ⟨fun h => (by cases h), fun _ => ?_⟩
  cases hq : (rdWrite b (0, false)).2.2
  · exact (h hq).elim
  · rfl
theorem WGot.good {b : List UInt8} {y : Wr} {n : Nat} (h : rdWrite b (0, false) = (y, n, false)) : WGot b y n true := ⟨fun _ => h, fun h => (by cases h)⟩

set_option maxHeartbeats 4000000 in
theorem rget_any (A : Option Addr) (c : Nat) (b : List UInt8) (w : World) (hb : Bs w (.slice A b.length c) b) (hbl : b.length ≤ 100000) :
    Calls Tryd.prog 93 #[.slice A b.length c] w fun en w' => ∃ (y : Wr) (n : Nat) (ok : Bool), en = .returned (.tuple #[.agg #[strV y.key, .int .i64 y.group, .bool y.gone, strV y.value], .int .i64 (n : Int), .bool ok]) ∧ WGot b y n ok ∧ Ext w w' := by
  obtain ⟨k, n1, e1, h1⟩ : ∃ x y z, ntext b 32 = (x, y, z) := ⟨_, _, _, rfl⟩
  have i1 := (ntext_in b 32).1
  rw [h1] at i1
  dsimp only at i1
  have T1 := fun v w h => refGetText_any v b 32 w h (by omega)
  rw [h1] at T1
  obtain ⟨g, n2, e2, h2⟩ : ∃ x y z, nget (b.drop n1) = (x, y, z) := ⟨_, _, _, rfl⟩
  have i2 := nget_in (b.drop n1)
  rw [h2, List.length_drop] at i2
  dsimp only at i2
  have T2 := fun v w h => refGet_any v (b.drop n1) w h
  rw [h2] at T2
  obtain ⟨p2, hp2⟩ : ∃ p, p = n1 + n2 := ⟨_, rfl⟩
  have le2 : p2 ≤ b.length := by omega
  obtain ⟨t, n3, e3, h3⟩ : ∃ x y z, nget (b.drop p2) = (x, y, z) := ⟨_, _, _, rfl⟩
  have i3 := nget_in (b.drop p2)
  rw [h3, List.length_drop] at i3
  dsimp only at i3
  have T3 := fun v w h => refGet_any v (b.drop p2) w h
  rw [h3] at T3
  obtain ⟨p3, hp3⟩ : ∃ p, p = p2 + n3 := ⟨_, rfl⟩
  have le3 : p3 ≤ b.length := by omega
  obtain ⟨z, n4, e4, h4⟩ : ∃ x y z, ntext (b.drop p3) 64 = (x, y, z) := ⟨_, _, _, rfl⟩
  have i4 := (ntext_in (b.drop p3) 64).1
  rw [h4, List.length_drop] at i4
  dsimp only at i4
  have T4 := fun v w h => refGetText_any v (b.drop p3) 64 w h (by omega)
  rw [h4] at T4
  obtain ⟨p4, hp4⟩ : ∃ p, p = p3 + n4 := ⟨_, rfl⟩
  have r1 : rdText b 32 (0, false) = (k, n1, !(e1 == 0)) := by unfold rdText; simp only [List.drop_zero, h1, Nat.zero_add, Bool.false_or]
  have r2 : rdNum b (n1, !(e1 == 0)) = (g, p2, (!(e1 == 0)) || !(e2 == 0)) := by unfold rdNum; simp only [h2, hp2]
  have r3 : rdNum b (p2, (!(e1 == 0)) || !(e2 == 0)) = (t, p3, (!(e1 == 0)) || !(e2 == 0) || !(e3 == 0)) := by unfold rdNum; simp only [h3, hp3]
  have r4 : rdText b 64 (p3, (!(e1 == 0)) || !(e2 == 0) || !(e3 == 0)) = (z, p4, (!(e1 == 0)) || !(e2 == 0) || !(e3 == 0) || !(e4 == 0)) := by unfold rdText; simp only [h4, hp4]
  have hok : (rdWrite b (0, false)).2.2 = false → e1 = 0 ∧ e2 = 0 ∧ e3 = 0 ∧ (t = 0 ∧ e4 = 0 ∨ t = 1) := fun hh => by
    have := rdWrite_ok hh
    simp only [r1, r2, r3, r4] at this
    obtain ⟨q1, q2, q3, q4⟩ := this
    obtain ⟨q2a, q2b⟩ := bad_or q2
    obtain ⟨q3a, q3b⟩ := bad_or q3
    refine ⟨beq_zero q1, beq_zero q2b, beq_zero q3b, ?_⟩
    rcases q4 with ⟨q4, q5⟩ | q4
    · exact .inl ⟨q4, beq_zero (bad_or q5).2⟩
    · exact .inr q4
  have hg0 : e1 = 0 → e2 = 0 → e3 = 0 → t = 0 → e4 = 0 → rdWrite b (0, false) = (⟨k, g, false, z⟩, p4, false) := fun a1 a2 a3 a4 a5 => by
    unfold rdWrite
    simp only [r1, r2, r3, r4]
    rw [if_pos a4, a1, a2, a3, a5]
    rfl
  have hg1 : e1 = 0 → e2 = 0 → e3 = 0 → t = 1 → rdWrite b (0, false) = (⟨k, g, true, []⟩, p3, false) := fun a1 a2 a3 a4 => by
    unfold rdWrite
    simp only [r1, r2, r3, r4]
    rw [if_neg (by omega), if_pos a4, a1, a2, a3]
    rfl
  have HOK := Lib.hid hok
  have HG0 := Lib.hid hg0
  have HG1 := Lib.hid hg1
  have HP2 := Lib.hid hp2
  have HP3 := Lib.hid hp3
  have HP4 := Lib.hid hp4
  clear hok hg0 hg1 r1 r2 r3 r4 h1 h2 h3 h4 hp2 hp3 hp4
  unfold strV at T1 T4
  have t1 := Lib.hid T1
  have t2 := Lib.hid T2
  have t3 := Lib.hid T3
  have t4 := Lib.hid T4
  have HB := Lib.hid hb
  clear T1 T2 T3 T4 hb
  have hcl : b.length ≤ c ∧ c ≤ 9223372036854775807 := by
    obtain ⟨_, _, e, q1, q2, _⟩ := HB.out
    injection e with _ e1 e2
    simp only [List.length_map] at *
    unfold maxLen at q2
    omega
  obtain ⟨hcl, hc9⟩ := hcl
  obtain ⟨SL1, sa1, sb1, hs1⟩ := slice_from_run A b.length c n1 i1
  obtain ⟨SL2, sa2, sb2, hs2⟩ := slice_from_run A b.length c p2 le2
  obtain ⟨SL3, sa3, sb3, hs3⟩ := slice_from_run A b.length c p3 le3
  have S1 := Lib.hid hs1
  have S2 := Lib.hid hs2
  have S3 := Lib.hid hs3
  have SA1 := Lib.hid (And.intro sa1 sb1)
  have SA2 := Lib.hid (And.intro sa2 sb2)
  have SA3 := Lib.hid (And.intro sa3 sb3)
  clear hs1 hs2 hs3 sa1 sb1 sa2 sb2 sa3 sb3
  go_enter Tryd.func93, Tryd.ntmps93
  go_wp2_with fail
  have bn := (Blk.new w #[.string ⟨#[]⟩, .int .i64 0, .bool false, .string ⟨#[]⟩] 62).ext (ext_alloc _ (.cells #[.string ⟨#[]⟩, .int .i64 0, .bool false, .string ⟨#[]⟩] 62))
  have bc := Blk.new (w.alloc (.cells #[.string ⟨#[]⟩, .int .i64 0, .bool false, .string ⟨#[]⟩] 62)) #[.string ⟨#[]⟩, .int .i64 0, .bool false, .string ⟨#[]⟩] 62
  have hx := (ext_alloc w (.cells #[.string ⟨#[]⟩, .int .i64 0, .bool false, .string ⟨#[]⟩] 62)).trans (ext_alloc _ (.cells #[.string ⟨#[]⟩, .int .i64 0, .bool false, .string ⟨#[]⟩] 62))
  simp only [World.size_alloc] at bc
  obtain ⟨nb, hnb⟩ : ∃ n, n = w.heap.size := ⟨_, rfl⟩
  obtain ⟨cb, hcb⟩ : ∃ n, n = w.heap.size + 1 := ⟨_, rfl⟩
  rw [← hnb] at bn
  rw [← hcb] at bc
  rw [← hnb]
  have HNE := Lib.hid (show ¬ cb = nb by omega)
  have HNW := Lib.hid (show w.heap.size ≤ nb by omega)
  have HCW := Lib.hid (show w.heap.size ≤ cb by omega)
  have hcb' : w.heap.size + 1 = cb := hcb.symm
  have hnb' : nb + 1 = cb := by omega
  try rw [hcb']
  try rw [hnb']
  clear hnb hcb hcb' hnb'
  generalize (w.alloc (.cells #[.string ⟨#[]⟩, .int .i64 0, .bool false, .string ⟨#[]⟩] 62)).alloc (.cells #[.string ⟨#[]⟩, .int .i64 0, .bool false, .string ⟨#[]⟩] 62) = W at *
  refine (t1.out _ _ (HB.out.ext hx)).mono ?_
  rintro en w1 ⟨rfl, x1⟩
  replace hx := Ext.trans hx x1
  replace bn := bn.ext x1
  replace bc := bc.ext x1
  clear x1 t1
  by_cases a1 : e1 = 0
  rotate_left
  · have hb0 : ((e1 : Int) != 0) = true := by rw [bne_iff_ne]; omega
    have A1 := Lib.hid a1
    clear a1
    have f0 := bn.cell (i := 0) rfl
    have fz0 := bn.thaw 0
    have f1 := bn.cell (i := 1) rfl
    have fz1 := bn.thaw 1
    have f2 := bn.cell (i := 2) rfl
    have fz2 := bn.thaw 2
    have f3 := bn.cell (i := 3) rfl
    have fz3 := bn.thaw 3
    have g0 := bc.cell (i := 0) rfl
    have gz0 := bc.thaw 0
    have g1 := bc.cell (i := 1) rfl
    have gz1 := bc.thaw 1
    have g2 := bc.cell (i := 2) rfl
    have gz2 := bc.thaw 2
    have g3 := bc.cell (i := 3) rfl
    have gz3 := bc.thaw 3
    have hne := HNE.out
    go_wp2_with fail
    have bf := set4_blk bn (.string ⟨#[]⟩) (.int .i64 0) (.bool false) (.string ⟨#[]⟩)
    have d0 := bf.cell (i := 0) rfl
    have d1 := bf.cell (i := 1) rfl
    have d2 := bf.cell (i := 2) rfl
    have d3 := bf.cell (i := 3) rfl
    have xf := set4_ext hx HNW.out (.string ⟨#[]⟩) (.int .i64 0) (.bool false) (.string ⟨#[]⟩)
    unfold set4 at d0 d1 d2 d3 xf
    exact bodyPost_ret (v := .tuple #[.agg #[.string ⟨#[]⟩, .int .i64 0, .bool false, .string ⟨#[]⟩], .int .i64 0, .bool false]) (by simp [results, Tryd.results93, d0, d1, d2, d3, go_sem]) rfl ⟨⟨([] : List UInt8), 0, false, ([] : List UInt8)⟩, 0, false, rfl, WGot.bad fun hh => A1.out (HOK.out hh).1, xf⟩
  subst a1
  have g0 := bc.cell (i := 0) rfl
  have gz0 := bc.thaw 0
  have g1 := bc.cell (i := 1) rfl
  have gz1 := bc.thaw 1
  have g2 := bc.cell (i := 2) rfl
  have gz2 := bc.thaw 2
  have g3 := bc.cell (i := 3) rfl
  have gz3 := bc.thaw 3
  obtain ⟨sa1, sb1⟩ := SA1.out
  go_wp2_with fail
  clear sa1 sb1
  clear g0 gz0 g1 gz1 g2 gz2 g3 gz3
  replace bc := bc.set 0 (.string ⟨k.toArray⟩)
  replace bn := bn.apart (a := ⟨cb, 0, none⟩) (.string ⟨k.toArray⟩) (fun e => HNE.out e.symm)
  replace hx := hx.setCell (p := ⟨cb, 0, none⟩) HCW.out (.string ⟨k.toArray⟩)
  simp only [List.set_cons_zero, List.set_cons_succ] at bc
  generalize w1.setCell ⟨cb, 0, none⟩ (.string ⟨k.toArray⟩) = W1 at *
  have hx : Ext w W1 := hx
  refine (t2.out _ _ (S1.out _ _ (HB.out.ext hx))).mono ?_
  rintro en w2 ⟨rfl, rfl⟩
  clear t2 S1 SA1
  by_cases a2 : e2 = 0
  rotate_left
  · have hb0 : ((e2 : Int) != 0) = true := by rw [bne_iff_ne]; omega
    have A2 := Lib.hid a2
    clear a2
    have f0 := bn.cell (i := 0) rfl
    have fz0 := bn.thaw 0
    have f1 := bn.cell (i := 1) rfl
    have fz1 := bn.thaw 1
    have f2 := bn.cell (i := 2) rfl
    have fz2 := bn.thaw 2
    have f3 := bn.cell (i := 3) rfl
    have fz3 := bn.thaw 3
    have g0 := bc.cell (i := 0) rfl
    have gz0 := bc.thaw 0
    have g1 := bc.cell (i := 1) rfl
    have gz1 := bc.thaw 1
    have g2 := bc.cell (i := 2) rfl
    have gz2 := bc.thaw 2
    have g3 := bc.cell (i := 3) rfl
    have gz3 := bc.thaw 3
    have hne := HNE.out
    go_wp2_with fail
    have bf := set4_blk bn (.string ⟨k.toArray⟩) (.int .i64 0) (.bool false) (.string ⟨#[]⟩)
    have d0 := bf.cell (i := 0) rfl
    have d1 := bf.cell (i := 1) rfl
    have d2 := bf.cell (i := 2) rfl
    have d3 := bf.cell (i := 3) rfl
    have xf := set4_ext hx HNW.out (.string ⟨k.toArray⟩) (.int .i64 0) (.bool false) (.string ⟨#[]⟩)
    unfold set4 at d0 d1 d2 d3 xf
    exact bodyPost_ret (v := .tuple #[.agg #[.string ⟨k.toArray⟩, .int .i64 0, .bool false, .string ⟨#[]⟩], .int .i64 0, .bool false]) (by simp [results, Tryd.results93, d0, d1, d2, d3, go_sem]) rfl ⟨⟨k, 0, false, ([] : List UInt8)⟩, 0, false, rfl, WGot.bad fun hh => A2.out (HOK.out hh).2.1, xf⟩
  subst a2
  have hw2 : IntKind.i64.wrap ((n1 : Int) + (n2 : Int)) = (p2 : Int) := by rw [IntWalk.i64_in _ (by have := HP2.out; omega)]; have := HP2.out; omega
  have g0 := bc.cell (i := 0) rfl
  have gz0 := bc.thaw 0
  have g1 := bc.cell (i := 1) rfl
  have gz1 := bc.thaw 1
  have g2 := bc.cell (i := 2) rfl
  have gz2 := bc.thaw 2
  have g3 := bc.cell (i := 3) rfl
  have gz3 := bc.thaw 3
  obtain ⟨sa1, sb1⟩ := SA2.out
  go_wp2_with fail
  clear sa1 sb1 hw2
  clear g0 gz0 g1 gz1 g2 gz2 g3 gz3
  replace bc := bc.set 1 (.int .i64 (g : Int))
  replace bn := bn.apart (a := ⟨cb, 1, none⟩) (.int .i64 (g : Int)) (fun e => HNE.out e.symm)
  replace hx := hx.setCell (p := ⟨cb, 1, none⟩) HCW.out (.int .i64 (g : Int))
  simp only [List.set_cons_zero, List.set_cons_succ] at bc
  generalize W1.setCell ⟨cb, 1, none⟩ (.int .i64 (g : Int)) = W2 at *
  have hx : Ext w W2 := hx
  refine (t3.out _ _ (S2.out _ _ (HB.out.ext hx))).mono ?_
  rintro en w3 ⟨rfl, rfl⟩
  clear t3 S2 SA2
  by_cases a3 : e3 = 0
  rotate_left
  · have hb0 : ((e3 : Int) != 0) = true := by rw [bne_iff_ne]; omega
    have A3 := Lib.hid a3
    clear a3
    have f0 := bn.cell (i := 0) rfl
    have fz0 := bn.thaw 0
    have f1 := bn.cell (i := 1) rfl
    have fz1 := bn.thaw 1
    have f2 := bn.cell (i := 2) rfl
    have fz2 := bn.thaw 2
    have f3 := bn.cell (i := 3) rfl
    have fz3 := bn.thaw 3
    have g0 := bc.cell (i := 0) rfl
    have gz0 := bc.thaw 0
    have g1 := bc.cell (i := 1) rfl
    have gz1 := bc.thaw 1
    have g2 := bc.cell (i := 2) rfl
    have gz2 := bc.thaw 2
    have g3 := bc.cell (i := 3) rfl
    have gz3 := bc.thaw 3
    have hne := HNE.out
    go_wp2_with fail
    have bf := set4_blk bn (.string ⟨k.toArray⟩) (.int .i64 (g : Int)) (.bool false) (.string ⟨#[]⟩)
    have d0 := bf.cell (i := 0) rfl
    have d1 := bf.cell (i := 1) rfl
    have d2 := bf.cell (i := 2) rfl
    have d3 := bf.cell (i := 3) rfl
    have xf := set4_ext hx HNW.out (.string ⟨k.toArray⟩) (.int .i64 (g : Int)) (.bool false) (.string ⟨#[]⟩)
    unfold set4 at d0 d1 d2 d3 xf
    exact bodyPost_ret (v := .tuple #[.agg #[.string ⟨k.toArray⟩, .int .i64 (g : Int), .bool false, .string ⟨#[]⟩], .int .i64 0, .bool false]) (by simp [results, Tryd.results93, d0, d1, d2, d3, go_sem]) rfl ⟨⟨k, (g : Int), false, ([] : List UInt8)⟩, 0, false, rfl, WGot.bad fun hh => A3.out (HOK.out hh).2.2.1, xf⟩
  subst a3
  by_cases hbig : 1 < t
  · have hb0 : (1 : Int) < (t : Int) := by omega
    have AB := Lib.hid hbig
    clear hbig
    have f0 := bn.cell (i := 0) rfl
    have fz0 := bn.thaw 0
    have f1 := bn.cell (i := 1) rfl
    have fz1 := bn.thaw 1
    have f2 := bn.cell (i := 2) rfl
    have fz2 := bn.thaw 2
    have f3 := bn.cell (i := 3) rfl
    have fz3 := bn.thaw 3
    have g0 := bc.cell (i := 0) rfl
    have gz0 := bc.thaw 0
    have g1 := bc.cell (i := 1) rfl
    have gz1 := bc.thaw 1
    have g2 := bc.cell (i := 2) rfl
    have gz2 := bc.thaw 2
    have g3 := bc.cell (i := 3) rfl
    have gz3 := bc.thaw 3
    have hne := HNE.out
    go_wp2_with fail
    have bf := set4_blk bn (.string ⟨k.toArray⟩) (.int .i64 (g : Int)) (.bool false) (.string ⟨#[]⟩)
    have d0 := bf.cell (i := 0) rfl
    have d1 := bf.cell (i := 1) rfl
    have d2 := bf.cell (i := 2) rfl
    have d3 := bf.cell (i := 3) rfl
    have xf := set4_ext hx HNW.out (.string ⟨k.toArray⟩) (.int .i64 (g : Int)) (.bool false) (.string ⟨#[]⟩)
    unfold set4 at d0 d1 d2 d3 xf
    exact bodyPost_ret (v := .tuple #[.agg #[.string ⟨k.toArray⟩, .int .i64 (g : Int), .bool false, .string ⟨#[]⟩], .int .i64 0, .bool false]) (by simp [results, Tryd.results93, d0, d1, d2, d3, go_sem]) rfl ⟨⟨k, (g : Int), false, ([] : List UInt8)⟩, 0, false, rfl, WGot.bad fun hh => by have h1 := (HOK.out hh).2.2.2; have h2 := AB.out; omega, xf⟩
  have hb0 : ¬ (1 : Int) < (t : Int) := by omega
  have hw3 : IntKind.i64.wrap ((p2 : Int) + (n3 : Int)) = (p3 : Int) := by rw [IntWalk.i64_in _ (by have := HP3.out; omega)]; have := HP3.out; omega
  rcases Nat.eq_zero_or_pos t with ht | ht
  · subst ht
    have g0 := bc.cell (i := 0) rfl
    have gz0 := bc.thaw 0
    have g1 := bc.cell (i := 1) rfl
    have gz1 := bc.thaw 1
    have g2 := bc.cell (i := 2) rfl
    have gz2 := bc.thaw 2
    have g3 := bc.cell (i := 3) rfl
    have gz3 := bc.thaw 3
    obtain ⟨sa1, sb1⟩ := SA3.out
    go_wp2_with fail
    clear sa1 sb1 hw3
    clear g0 gz0 g1 gz1 g2 gz2 g3 gz3
    replace bc := bc.set 2 (.bool false)
    replace bn := bn.apart (a := ⟨cb, 2, none⟩) (.bool false) (fun e => HNE.out e.symm)
    replace hx := hx.setCell (p := ⟨cb, 2, none⟩) HCW.out (.bool false)
    simp only [List.set_cons_zero, List.set_cons_succ] at bc
    generalize W2.setCell ⟨cb, 2, none⟩ (.bool false) = W3 at *
    have hx : Ext w W3 := hx
    refine (t4.out _ _ (S3.out _ _ (HB.out.ext hx))).mono ?_
    rintro en w4 ⟨rfl, x4⟩
    replace hx := Ext.trans hx x4
    replace bn := bn.ext x4
    replace bc := bc.ext x4
    clear x4 t4 S3 SA3
    by_cases a4 : e4 = 0
    rotate_left
    · have hb0 : ((e4 : Int) != 0) = true := by rw [bne_iff_ne]; omega
      have A4 := Lib.hid a4
      clear a4
      have f0 := bn.cell (i := 0) rfl
      have fz0 := bn.thaw 0
      have f1 := bn.cell (i := 1) rfl
      have fz1 := bn.thaw 1
      have f2 := bn.cell (i := 2) rfl
      have fz2 := bn.thaw 2
      have f3 := bn.cell (i := 3) rfl
      have fz3 := bn.thaw 3
      have g0 := bc.cell (i := 0) rfl
      have gz0 := bc.thaw 0
      have g1 := bc.cell (i := 1) rfl
      have gz1 := bc.thaw 1
      have g2 := bc.cell (i := 2) rfl
      have gz2 := bc.thaw 2
      have g3 := bc.cell (i := 3) rfl
      have gz3 := bc.thaw 3
      have hne := HNE.out
      go_wp2_with fail
      have bf := set4_blk bn (.string ⟨k.toArray⟩) (.int .i64 (g : Int)) (.bool false) (.string ⟨#[]⟩)
      have d0 := bf.cell (i := 0) rfl
      have d1 := bf.cell (i := 1) rfl
      have d2 := bf.cell (i := 2) rfl
      have d3 := bf.cell (i := 3) rfl
      have xf := set4_ext hx HNW.out (.string ⟨k.toArray⟩) (.int .i64 (g : Int)) (.bool false) (.string ⟨#[]⟩)
      unfold set4 at d0 d1 d2 d3 xf
      exact bodyPost_ret (v := .tuple #[.agg #[.string ⟨k.toArray⟩, .int .i64 (g : Int), .bool false, .string ⟨#[]⟩], .int .i64 0, .bool false]) (by simp [results, Tryd.results93, d0, d1, d2, d3, go_sem]) rfl ⟨⟨k, (g : Int), false, ([] : List UInt8)⟩, 0, false, rfl, WGot.bad fun hh => by have h1 := (HOK.out hh).2.2.2; have h2 := A4.out; omega, xf⟩
    subst a4
    have hw4 : IntKind.i64.wrap ((p3 : Int) + (n4 : Int)) = (p4 : Int) := by rw [IntWalk.i64_in _ (by have := HP4.out; omega)]; have := HP4.out; omega
    have HBC : Hid (Blk (w4.setCell ⟨cb, 3, none⟩ (.string ⟨z.toArray⟩)) cb [.string ⟨k.toArray⟩, .int .i64 (g : Int), .bool false, .string ⟨z.toArray⟩]) := Lib.hid (bc.set 3 (.string ⟨z.toArray⟩))
    have HBN : Hid (Blk (w4.setCell ⟨cb, 3, none⟩ (.string ⟨z.toArray⟩)) nb [.string ⟨#[]⟩, .int .i64 0, .bool false, .string ⟨#[]⟩]) := Lib.hid (bn.apart (a := ⟨cb, 3, none⟩) (.string ⟨z.toArray⟩) (fun e => HNE.out e.symm))
    have HX : Hid (Ext w (w4.setCell ⟨cb, 3, none⟩ (.string ⟨z.toArray⟩))) := Lib.hid (hx.setCell (p := ⟨cb, 3, none⟩) HCW.out (.string ⟨z.toArray⟩))
    have g0 := bc.cell (i := 0) rfl
    have gz0 := bc.thaw 0
    have g1 := bc.cell (i := 1) rfl
    have gz1 := bc.thaw 1
    have g2 := bc.cell (i := 2) rfl
    have gz2 := bc.thaw 2
    have g3 := bc.cell (i := 3) rfl
    have gz3 := bc.thaw 3
    have m0 := (HBC.out).cell (i := 0) rfl
    have mz0 := (HBC.out).thaw 0
    have q0 := (HBN.out).cell (i := 0) rfl
    have qz0 := (HBN.out).thaw 0
    have m1 := (HBC.out).cell (i := 1) rfl
    have mz1 := (HBC.out).thaw 1
    have q1 := (HBN.out).cell (i := 1) rfl
    have qz1 := (HBN.out).thaw 1
    have m2 := (HBC.out).cell (i := 2) rfl
    have mz2 := (HBC.out).thaw 2
    have q2 := (HBN.out).cell (i := 2) rfl
    have qz2 := (HBN.out).thaw 2
    have m3 := (HBC.out).cell (i := 3) rfl
    have mz3 := (HBC.out).thaw 3
    have q3 := (HBN.out).cell (i := 3) rfl
    have qz3 := (HBN.out).thaw 3
    have hne := HNE.out
    go_wp2_with fail
    have bf := set4_blk HBN.out (.string ⟨k.toArray⟩) (.int .i64 (g : Int)) (.bool false) (.string ⟨z.toArray⟩)
    have d0 := bf.cell (i := 0) rfl
    have d1 := bf.cell (i := 1) rfl
    have d2 := bf.cell (i := 2) rfl
    have d3 := bf.cell (i := 3) rfl
    have xf := set4_ext HX.out HNW.out (.string ⟨k.toArray⟩) (.int .i64 (g : Int)) (.bool false) (.string ⟨z.toArray⟩)
    unfold set4 at d0 d1 d2 d3 xf
    exact bodyPost_ret (v := .tuple #[.agg #[.string ⟨k.toArray⟩, .int .i64 (g : Int), .bool false, .string ⟨z.toArray⟩], .int .i64 (p4 : Int), .bool true]) (by simp [results, Tryd.results93, d0, d1, d2, d3, go_sem]) rfl ⟨⟨k, (g : Int), false, z⟩, p4, true, rfl, WGot.good (HG0.out (by simp) (by simp) (by simp) (by simp) (by simp)), xf⟩
  · obtain rfl : t = 1 := by omega
    have HBC : Hid (Blk (W2.setCell ⟨cb, 2, none⟩ (.bool true)) cb [.string ⟨k.toArray⟩, .int .i64 (g : Int), .bool true, .string ⟨#[]⟩]) := Lib.hid (bc.set 2 (.bool true))
    have HBN : Hid (Blk (W2.setCell ⟨cb, 2, none⟩ (.bool true)) nb [.string ⟨#[]⟩, .int .i64 0, .bool false, .string ⟨#[]⟩]) := Lib.hid (bn.apart (a := ⟨cb, 2, none⟩) (.bool true) (fun e => HNE.out e.symm))
    have HX : Hid (Ext w (W2.setCell ⟨cb, 2, none⟩ (.bool true))) := Lib.hid (hx.setCell (p := ⟨cb, 2, none⟩) HCW.out (.bool true))
    have g0 := bc.cell (i := 0) rfl
    have gz0 := bc.thaw 0
    have g1 := bc.cell (i := 1) rfl
    have gz1 := bc.thaw 1
    have g2 := bc.cell (i := 2) rfl
    have gz2 := bc.thaw 2
    have g3 := bc.cell (i := 3) rfl
    have gz3 := bc.thaw 3
    have m0 := (HBC.out).cell (i := 0) rfl
    have mz0 := (HBC.out).thaw 0
    have q0 := (HBN.out).cell (i := 0) rfl
    have qz0 := (HBN.out).thaw 0
    have m1 := (HBC.out).cell (i := 1) rfl
    have mz1 := (HBC.out).thaw 1
    have q1 := (HBN.out).cell (i := 1) rfl
    have qz1 := (HBN.out).thaw 1
    have m2 := (HBC.out).cell (i := 2) rfl
    have mz2 := (HBC.out).thaw 2
    have q2 := (HBN.out).cell (i := 2) rfl
    have qz2 := (HBN.out).thaw 2
    have m3 := (HBC.out).cell (i := 3) rfl
    have mz3 := (HBC.out).thaw 3
    have q3 := (HBN.out).cell (i := 3) rfl
    have qz3 := (HBN.out).thaw 3
    have hne := HNE.out
    go_wp2_with fail
    have bf := set4_blk HBN.out (.string ⟨k.toArray⟩) (.int .i64 (g : Int)) (.bool true) (.string ⟨#[]⟩)
    have d0 := bf.cell (i := 0) rfl
    have d1 := bf.cell (i := 1) rfl
    have d2 := bf.cell (i := 2) rfl
    have d3 := bf.cell (i := 3) rfl
    have xf := set4_ext HX.out HNW.out (.string ⟨k.toArray⟩) (.int .i64 (g : Int)) (.bool true) (.string ⟨#[]⟩)
    unfold set4 at d0 d1 d2 d3 xf
    exact bodyPost_ret (v := .tuple #[.agg #[.string ⟨k.toArray⟩, .int .i64 (g : Int), .bool true, .string ⟨#[]⟩], .int .i64 (p3 : Int), .bool true]) (by simp [results, Tryd.results93, d0, d1, d2, d3, go_sem]) rfl ⟨⟨k, (g : Int), true, ([] : List UInt8)⟩, p3, true, rfl, WGot.good (HG1.out (by simp) (by simp) (by simp) (by simp)), xf⟩
end Go.Proofs.YtacabcpjaadijaaDoor

/-
  The document's reader of changes: read, Get.
-/
namespace Go.Proofs.YtacabcpjaadijaaDoor
open Go Go.RowKit Mono Num
set_option linter.unusedVariables false
set_option linter.unusedSimpArgs false
set_option maxRecDepth 10000

theorem rdText_shift (b : List UInt8) (m : Int) (a s : Nat) (q : Bool) : rdText b m (a + s, q) = ((rdText (b.drop a) m (s, q)).1, a + (rdText (b.drop a) m (s, q)).2.1, (rdText (b.drop a) m (s, q)).2.2) := by
  unfold rdText; simp only [List.drop_drop, Nat.add_assoc]
theorem rdNum_shift (b : List UInt8) (a s : Nat) (q : Bool) : rdNum b (a + s, q) = ((rdNum (b.drop a) (s, q)).1, a + (rdNum (b.drop a) (s, q)).2.1, (rdNum (b.drop a) (s, q)).2.2) := by
  unfold rdNum; simp only [List.drop_drop, Nat.add_assoc]
theorem rdWrite_shift (b : List UInt8) (a s : Nat) (q : Bool) : rdWrite b (a + s, q) = ((rdWrite (b.drop a) (s, q)).1, a + (rdWrite (b.drop a) (s, q)).2.1, (rdWrite (b.drop a) (s, q)).2.2) := by
  unfold rdWrite
  simp only [rdText_shift, rdNum_shift]
  split
  · rfl
  · split <;> rfl
theorem rdAll_form2 (b : List UInt8) (n : Nat) (s : Nat × Bool) (h : (rdAll b (n + 1) s).2.2 = false) : (rdWrite b s).2.2 = false := by
  cases hs : s.2
  · rw [rdAll_step b n s hs] at h
    dsimp only at h
    cases hq : (rdWrite b s).2.2
    · rfl
    · rw [rdAll_bad b n _ hq] at h; dsimp only at h; rw [hq] at h; exact h
  · rw [rdAll_bad b _ s hs] at h
    dsimp only at h
    rw [hs] at h
    cases h
theorem four_new' {w : World} {H : Nat} (hH : w.heap.size = H) (a b c d : Value) (T : TypeId) : ∀ j u, ([a, b, c, d] : List Value)[j]? = some u → (w.alloc (.cells #[a, b, c, d] T)).cell? ((⟨H, 0, none⟩ : Addr).add j) = some u := by
  subst hH
  exact four_new w a b c d T
theorem own_succ {w : World} {base size n : Nat} {e : TypeId} {v : Value} {xs : List Value} (h : w.ownsRow base e size v (n + 1) xs) : ∃ g cap, v = .slice (some ⟨g, 0, none⟩) (n + 1) cap := by
  rcases h.2 with ⟨_, hn⟩ | ⟨g, cap, cur, rfl, _⟩
  · omega
  · exact ⟨g, cap, rfl⟩
theorem rdChange_end (b : List UInt8) : (rdChange b).2 = (rdAll b (min (rdHead b).2.1 9) (rdHead b).2.2).2 := by unfold rdChange; dsimp only
theorem rdChange_ws (b : List UInt8) : (rdChange b).1.writes = (rdAll b (min (rdHead b).2.1 9) (rdHead b).2.2).1 := by unfold rdChange; dsimp only
theorem rdHead_in (b : List UInt8) : (rdHead b).2.2.1 ≤ b.length := by
  unfold rdHead
  dsimp only
  exact (rdNum_in b _ (rdVec_in b _ (rdStamp_in b _ (rdNum_in b _ (rdNum_in b _ (Nat.zero_le _)).1).1))).1
theorem ref_fail {b : List UInt8} {K p a : Nat} {acc : List Wr} (hall : rdAll b K (p, false) = (acc ++ (rdAll b (K - acc.length) (a, false)).1, (rdAll b (K - acc.length) (a, false)).2)) (hlt : acc.length < K)
    (hbad : (rdWrite (b.drop a) (0, false)).2.2 = true) (h : (rdAll b K (p, false)).2.2 = false) : False := by
  rw [hall] at h
  dsimp only at h
  rw [show K - acc.length = (K - acc.length - 1) + 1 by omega] at h
  have := rdAll_form2 b _ _ h
  have h2 := rdWrite_shift b a 0 false
  rw [Nat.add_zero] at h2
  rw [h2] at this
  dsimp only at this
  rw [hbad] at this
  cases this
/-- What the document's reader tells of a change. -/
def CGot (b : List UInt8) (d : Ch) (n : Nat) (ok : Bool) : Prop := (ok = true → rdChange b = (d, n, false)) ∧ (ok = false → (rdChange b).2.2 = false → 8 < (rdHead b).2.1)
theorem CGot.bad {b : List UInt8} {d : Ch} {n : Nat} (h : (rdHead b).2.2.2 = false → (rdHead b).2.1 ≤ 8 → (rdAll b (min (rdHead b).2.1 9) (rdHead b).2.2).2.2 = false → False) : CGot b d n false := by
  refine ⟨fun h => (by cases h), fun _ hc => ?_⟩
  have hc' : (rdAll b (min (rdHead b).2.1 9) (rdHead b).2.2).2.2 = false := by rw [← rdChange_end]; exact hc
  rcases Nat.lt_or_ge 8 (rdHead b).2.1 with hq | hq
  · exact hq
  · exfalso
    refine h ?_ hq hc'
    cases hb : (rdHead b).2.2.2
    · rfl
    · rw [rdAll_bad b _ _ hb] at hc'
      dsimp only at hc'
      rw [hb] at hc'
      cases hc'
theorem CGot.good {b : List UInt8} {d : Ch} {n : Nat} (h : rdChange b = (d, n, false)) : CGot b d n true := ⟨fun _ => h, fun h => (by cases h)⟩
theorem CGot.get {b : List UInt8} {d : Ch} {n : Nat} {ok : Bool} (gs : List Grp) (hb : b.length ≤ 100000) (h : CGot b d n ok) (hp : pgood gs = 0) : (ok = true → cgetP gs b = if cgood gs d = 0 then (d, n, 0) else (Ch.nought, 0, 120)) ∧ (ok = false → cgetP gs b = (Ch.nought, 0, 120)) := by
  constructor
  · intro hk
    unfold cgetP
    rw [if_neg (by omega), h.1 hk]
    by_cases hg : cgood gs d = 0
    · rw [if_pos hg, if_neg (by simp [hg])]
    · rw [if_neg hg, if_pos (by simp [hg])]
  · intro hk
    unfold cgetP
    rw [if_neg (by omega), if_pos]
    cases hc : (rdChange b).2.2
    · have h8 := h.2 hk hc
      have hc' : (rdAll b (min (rdHead b).2.1 9) (rdHead b).2.2).2.2 = false := by rw [← rdChange_end]; exact hc
      have hin := rdHead_in b
      obtain ⟨g1, _⟩ := rdAll_form b _ _ hin hb hc'
      have hne : cgood gs (rdChange b).1 ≠ 0 := fun hg => by
        obtain ⟨_, _, _, hn8, _⟩ := cgood_parts hg
        rw [rdChange_ws] at hn8
        omega
      simp [hne]
    · rfl

/-- What stands while the document's reader reads the writes. -/
structure RSt (w wr : World) (cb nb base : Nat) (h6 : List Value) (vs : Value) (acc : List Wr) : Prop where
  ext : Ext w wr
  chg : Blk wr cb (h6 ++ [vs])
  res : Blk wr nb [.int .i64 0, .int .i64 0, .int .i64 0, .int .i64 0, .int .i64 0, .int .i64 0, .slice none 0 0]
  row : wr.ownsRow base 62 4 vs acc.length (wcells acc)
  len : h6.length = 6
  ncn : cb ≠ nb
  lc : cb < base
  ln : nb < base
  oc : w.heap.size ≤ cb
  on : w.heap.size ≤ nb
  hb : base ≤ wr.heap.size
theorem RSt.more_ {w wr w1 : World} {cb nb base : Nat} {vs : Value} {h6 : List Value} {acc : List Wr} (h : RSt w wr cb nb base h6 vs acc) (he : Ext wr w1) : RSt w w1 cb nb base h6 vs acc :=
  ⟨h.ext.trans he, h.chg.ext he, h.res.ext he, h.row.kept (gb_ext he none) (by cases vs.ownBlock <;> simp), h.len, h.ncn, h.lc, h.ln, h.oc, h.on, Nat.le_trans h.hb he.size⟩
theorem RSt.more {w wr w3 : World} {cb nb base k : Nat} {vs vs' : Value} {h6 : List Value} {acc : List Wr} {x : Wr} {ys : List Value} {tmp : Obj} (h : RSt w wr cb nb base h6 vs acc)
    (hown : w3.ownsRow base 62 4 vs' k ys) (hk : k = acc.length + 1) (hys : ys = wcells acc ++ [strV x.key, .int .i64 x.group, .bool x.gone, strV x.value]) (hg : (wr.alloc tmp).grownBy w3 vs.ownBlock) :
    Blk w3 cb (h6 ++ [vs]) ∧ RSt w (w3.setCell ⟨cb, 6, none⟩ vs') cb nb base h6 vs' (acc ++ [x]) := by
  subst hk hys
  have hge := World.ownsRow.lt h.row
  have keep : ∀ {b : Nat} {L : List Value}, b < base → Blk wr b L → Blk w3 b L := fun {b L} hb hk => by
    have hl := hk.lt
    obtain ⟨T, hT⟩ := hk
    refine ⟨T, (hg.block b (by simp; omega) (fun e => ?_)).trans ((Below.heap_alloc _ _ _ (by omega)).trans hT)⟩
    have := (hge b e.symm).1
    omega
  have hc := keep h.lc h.chg
  have hsz := hg.size
  rw [World.size_alloc] at hsz
  have hext : Ext w w3 := Below.grown (h.ext.trans (ext_alloc _ _)) hg (by have := h.ext.size; simp; omega) (fun j hj => by have := (hge j hj).1; have := h.oc; have := h.lc; omega)
  refine ⟨hc, ⟨hext.setCell (p := ⟨cb, 6, none⟩) h.oc _, ?_, (keep h.ln h.res).apart (a := ⟨cb, 6, none⟩) _ (fun e => h.ncn e.symm), ?_, h.len, h.ncn, h.lc, h.ln, h.oc, h.on, ?_⟩⟩
  · have := hc.set 6 vs'
    rw [List.set_append_right _ _ (Nat.le_of_eq h.len), h.len] at this
    exact this
  · rw [List.length_append, wcells_snoc]
    refine hown.kept (gb_set _ _ _ _) ?_
    rcases hv : vs'.ownBlock with _ | j
    · exact .inl rfl
    · refine .inr fun e' => ?_
      injection e' with e'
      have := (World.ownsRow.lt hown j hv).1
      have := h.lc
      omega
  · have := h.hb
    simp
    omega
theorem RSt.form {w wr : World} {cb nb base : Nat} {vs : Value} {h6 : List Value} {acc : List Wr} (h : RSt w wr cb nb base h6 vs acc) : ∃ A c, vs = .slice A acc.length c := by
  rcases h.row.2 with ⟨rfl, hn⟩ | ⟨g, cap, cur, rfl, _⟩
  · exact ⟨none, 0, by rw [hn]⟩
  · exact ⟨_, _, rfl⟩
/-- The writes still read behind the copy into the result's variable. -/
theorem RSt.ws {w wr : World} {cb nb base : Nat} {vs : Value} {h6 : List Value} {acc : List Wr} (h : RSt w wr cb nb base h6 vs acc) (hf : ∀ x ∈ acc, x.fits) (x0 x1 x2 x3 x4 x5 x6 : Value) : WsO (set7 wr nb x0 x1 x2 x3 x4 x5 x6) vs acc :=
  ⟨row_zero (h.row.kept (set7_gb _ _ _ _ _ _ _ _ _) (by
    rcases hv : vs.ownBlock with _ | jj
    · exact .inl rfl
    · refine .inr fun e => ?_
      injection e with e
      have := (World.ownsRow.lt h.row jj hv).1
      have := h.ln
      omega)), hf⟩

def ReadPost (b : List UInt8) (w : World) (en : Ending) (w' : World) : Prop :=
  ∃ (d : Ch) (vw : Value) (n : Nat) (ok : Bool), en = .returned (.tuple #[chV d vw, .int .i64 (n : Int), .bool ok]) ∧ WsO w' vw d.writes ∧ CGot b d n ok ∧ Ext w w'
theorem ReadPost.mk {b : List UInt8} {w : World} {en : Ending} {w' : World} (d : Ch) (vw : Value) (n : Nat) (ok : Bool) (h : en = .returned (.tuple #[chV d vw, .int .i64 (n : Int), .bool ok])) (hw : WsO w' vw d.writes) (hg : CGot b d n ok) (hx : Ext w w') : ReadPost b w en w' := ⟨d, vw, n, ok, h, hw, hg, hx⟩
set_option maxHeartbeats 8000000 in
theorem rread_any (A : Option Addr) (c : Nat) (b : List UInt8) (w : World) (hb : Bs w (.slice A b.length c) b) (hbl : b.length ≤ 20000) :
    Calls Tryd.prog 73 #[.slice A b.length c] w fun en w' => ReadPost b w en w' := by
  obtain ⟨x1, p1, e1, h1⟩ : ∃ x y z, nget b = (x, y, z) := ⟨_, _, _, rfl⟩
  have i1 := nget_in b
  rw [h1] at i1
  dsimp only at i1
  have T1 := fun v w h => refGet_any v b w h
  rw [h1] at T1
  obtain ⟨x2, n2, e2, h2⟩ : ∃ x y z, nget (b.drop p1) = (x, y, z) := ⟨_, _, _, rfl⟩
  have i2 := nget_in (b.drop p1)
  rw [h2, List.length_drop] at i2
  dsimp only at i2
  have T2 := fun v w h => refGet_any v (b.drop p1) w h
  rw [h2] at T2
  obtain ⟨p2, hp2⟩ : ∃ p, p = p1 + n2 := ⟨_, rfl⟩
  have le2 : p2 ≤ b.length := by omega
  obtain ⟨⟨y3, z3⟩, n3, e3, h3⟩ : ∃ x y z, sget (b.drop p2) = (x, y, z) := ⟨_, _, _, rfl⟩
  have i3 := sget_in (b.drop p2)
  rw [h3, List.length_drop] at i3
  dsimp only at i3
  have T3 := fun v w h => refSGet_any v (b.drop p2) w h
  rw [h3] at T3
  obtain ⟨p3, hp3⟩ : ∃ p, p = p2 + n3 := ⟨_, rfl⟩
  have le3 : p3 ≤ b.length := by omega
  obtain ⟨⟨y4, z4⟩, n4, e4, h4⟩ : ∃ x y z, vget (b.drop p3) = (x, y, z) := ⟨_, _, _, rfl⟩
  have i4 := vget_in (b.drop p3)
  rw [h4, List.length_drop] at i4
  dsimp only at i4
  have T4 := fun v w h => ref6Get_any v (b.drop p3) w h
  rw [h4] at T4
  obtain ⟨p4, hp4⟩ : ∃ p, p = p3 + n4 := ⟨_, rfl⟩
  have le4 : p4 ≤ b.length := by omega
  obtain ⟨x5, n5, e5, h5⟩ : ∃ x y z, nget (b.drop p4) = (x, y, z) := ⟨_, _, _, rfl⟩
  have i5 := nget_in (b.drop p4)
  rw [h5, List.length_drop] at i5
  dsimp only at i5
  have T5 := fun v w h => refGet_any v (b.drop p4) w h
  rw [h5] at T5
  obtain ⟨p5, hp5⟩ : ∃ p, p = p4 + n5 := ⟨_, rfl⟩
  have le5 : p5 ≤ b.length := by omega
  unfold stV at T3
  unfold getV vecV at T4
  dsimp only at T1 T2 T3 T4 T5
  have r1 : rdNum b (0, false) = (x1, p1, !(e1 == 0)) := by unfold rdNum; simp only [List.drop_zero, h1, Nat.zero_add, Bool.false_or]
  have r2 : rdNum b (p1, !(e1 == 0)) = (x2, p2, (!(e1 == 0)) || !(e2 == 0)) := by unfold rdNum; simp only [h2, hp2]
  have r3 : rdStamp b (p2, (!(e1 == 0)) || !(e2 == 0)) = ((y3, z3), p3, (!(e1 == 0)) || !(e2 == 0) || !(e3 == 0)) := by unfold rdStamp; simp only [h3, hp3]
  have r4 : rdVec b (p3, (!(e1 == 0)) || !(e2 == 0) || !(e3 == 0)) = ((y4, z4), p4, (!(e1 == 0)) || !(e2 == 0) || !(e3 == 0) || !(e4 == 0)) := by unfold rdVec; simp only [h4, hp4]
  have r5 : rdNum b (p4, (!(e1 == 0)) || !(e2 == 0) || !(e3 == 0) || !(e4 == 0)) = (x5, p5, (!(e1 == 0)) || !(e2 == 0) || !(e3 == 0) || !(e4 == 0) || !(e5 == 0)) := by unfold rdNum; simp only [h5, hp5]
  have hhd : rdHead b = ((x1, x2, (y3, z3), (y4, z4)), x5, p5, (!(e1 == 0)) || !(e2 == 0) || !(e3 == 0) || !(e4 == 0) || !(e5 == 0)) := by unfold rdHead; simp only [r1, r2, r3, r4, r5]
  have hok : (rdHead b).2.2.2 = false → e1 = 0 ∧ e2 = 0 ∧ e3 = 0 ∧ e4 = 0 ∧ e5 = 0 := fun hh => by
    rw [hhd] at hh
    dsimp only at hh
    obtain ⟨hh, q5⟩ := bad_or hh
    obtain ⟨hh, q4⟩ := bad_or hh
    obtain ⟨hh, q3⟩ := bad_or hh
    obtain ⟨q1, q2⟩ := bad_or hh
    exact ⟨beq_zero q1, beq_zero q2, beq_zero q3, beq_zero q4, beq_zero q5⟩
  have HOK := Lib.hid hok
  have HHD := Lib.hid hhd
  have HP2 := Lib.hid hp2
  have HP3 := Lib.hid hp3
  have HP4 := Lib.hid hp4
  have HP5 := Lib.hid hp5
  clear hok hhd r1 r2 r3 r4 r5 h1 h2 h3 h4 h5 hp2 hp3 hp4 hp5
  have t1 := Lib.hid T1
  have t2 := Lib.hid T2
  have t3 := Lib.hid T3
  have t4 := Lib.hid T4
  have t5 := Lib.hid T5
  have HB := Lib.hid hb
  clear T1 T2 T3 T4 T5 hb
  have hcl : b.length ≤ c ∧ c ≤ 9223372036854775807 := by
    obtain ⟨_, _, e, q1, q2, _⟩ := HB.out
    injection e with _ e1 e2
    simp only [List.length_map] at *
    unfold maxLen at q2
    omega
  obtain ⟨hcl, hc9⟩ := hcl
  obtain ⟨i1, l1⟩ := i1
  obtain ⟨i2, l2⟩ := i2
  obtain ⟨i5, l5⟩ := i5
  obtain ⟨SL1, sa, sb, hs⟩ := slice_from_run A b.length c p1 i1
  have S1 := Lib.hid hs
  have SA1 := Lib.hid (And.intro sa sb)
  clear hs sa sb
  obtain ⟨SL2, sa, sb, hs⟩ := slice_from_run A b.length c p2 le2
  have S2 := Lib.hid hs
  have SA2 := Lib.hid (And.intro sa sb)
  clear hs sa sb
  obtain ⟨SL3, sa, sb, hs⟩ := slice_from_run A b.length c p3 le3
  have S3 := Lib.hid hs
  have SA3 := Lib.hid (And.intro sa sb)
  clear hs sa sb
  obtain ⟨SL4, sa, sb, hs⟩ := slice_from_run A b.length c p4 le4
  have S4 := Lib.hid hs
  have SA4 := Lib.hid (And.intro sa sb)
  clear hs sa sb
  go_enter Tryd.func73, Tryd.ntmps73
  go_wp2_with fail
  have bn := (Blk.new w #[.int .i64 0, .int .i64 0, .int .i64 0, .int .i64 0, .int .i64 0, .int .i64 0, .slice none 0 0] 32).ext (ext_alloc _ (.cells #[.int .i64 0, .int .i64 0, .int .i64 0, .int .i64 0, .int .i64 0, .int .i64 0, .slice none 0 0] 32))
  have bc := Blk.new (w.alloc (.cells #[.int .i64 0, .int .i64 0, .int .i64 0, .int .i64 0, .int .i64 0, .int .i64 0, .slice none 0 0] 32)) #[.int .i64 0, .int .i64 0, .int .i64 0, .int .i64 0, .int .i64 0, .int .i64 0, .slice none 0 0] 32
  have hx := (ext_alloc w (.cells #[.int .i64 0, .int .i64 0, .int .i64 0, .int .i64 0, .int .i64 0, .int .i64 0, .slice none 0 0] 32)).trans (ext_alloc _ (.cells #[.int .i64 0, .int .i64 0, .int .i64 0, .int .i64 0, .int .i64 0, .int .i64 0, .slice none 0 0] 32))
  simp only [World.size_alloc] at bc
  obtain ⟨nb, hnb⟩ : ∃ n, n = w.heap.size := ⟨_, rfl⟩
  obtain ⟨cb, hcb⟩ : ∃ n, n = w.heap.size + 1 := ⟨_, rfl⟩
  rw [← hnb] at bn
  rw [← hcb] at bc
  rw [← hnb]
  have HNE := Lib.hid (show ¬ cb = nb by omega)
  have HNW := Lib.hid (show w.heap.size ≤ nb by omega)
  have HCW := Lib.hid (show w.heap.size ≤ cb by omega)
  have hcb' : w.heap.size + 1 = cb := hcb.symm
  have hnb' : nb + 1 = cb := by omega
  try rw [hcb']
  try rw [hnb']
  clear hnb hcb hcb' hnb'
  generalize (w.alloc (.cells #[.int .i64 0, .int .i64 0, .int .i64 0, .int .i64 0, .int .i64 0, .int .i64 0, .slice none 0 0] 32)).alloc (.cells #[.int .i64 0, .int .i64 0, .int .i64 0, .int .i64 0, .int .i64 0, .int .i64 0, .slice none 0 0] 32) = W at *
  refine (t1.out _ _ (HB.out.ext hx)).mono ?_
  rintro en w1 ⟨rfl, rfl⟩
  clear t1
  by_cases Ae1 : e1 = 0
  rotate_left
  · have hb0 : ((e1 : Int) != 0) = true := by rw [bne_iff_ne]; omega
    have AA := Lib.hid Ae1
    clear Ae1
    have f0 := bn.cell (i := 0) rfl
    have fz0 := bn.thaw 0
    have f1 := bn.cell (i := 1) rfl
    have fz1 := bn.thaw 1
    have f2 := bn.cell (i := 2) rfl
    have fz2 := bn.thaw 2
    have f3 := bn.cell (i := 3) rfl
    have fz3 := bn.thaw 3
    have f4 := bn.cell (i := 4) rfl
    have fz4 := bn.thaw 4
    have f5 := bn.cell (i := 5) rfl
    have fz5 := bn.thaw 5
    have f6 := bn.cell (i := 6) rfl
    have fz6 := bn.thaw 6
    have g0 := bc.cell (i := 0) rfl
    have gz0 := bc.thaw 0
    have g1 := bc.cell (i := 1) rfl
    have gz1 := bc.thaw 1
    have g2 := bc.cell (i := 2) rfl
    have gz2 := bc.thaw 2
    have g3 := bc.cell (i := 3) rfl
    have gz3 := bc.thaw 3
    have g4 := bc.cell (i := 4) rfl
    have gz4 := bc.thaw 4
    have g5 := bc.cell (i := 5) rfl
    have gz5 := bc.thaw 5
    have g6 := bc.cell (i := 6) rfl
    have gz6 := bc.thaw 6
    have hne := HNE.out
    go_wp2_with fail
    have bf := set7_blk bn (.int .i64 0) (.int .i64 0) (.int .i64 0) (.int .i64 0) (.int .i64 0) (.int .i64 0) (.slice none 0 0)
    have d0 := bf.cell (i := 0) rfl
    have d1 := bf.cell (i := 1) rfl
    have d2 := bf.cell (i := 2) rfl
    have d3 := bf.cell (i := 3) rfl
    have d4 := bf.cell (i := 4) rfl
    have d5 := bf.cell (i := 5) rfl
    have d6 := bf.cell (i := 6) rfl
    have xf := set7_ext hx HNW.out (.int .i64 0) (.int .i64 0) (.int .i64 0) (.int .i64 0) (.int .i64 0) (.int .i64 0) (.slice none 0 0)
    unfold set7 at d0 d1 d2 d3 d4 d5 d6 xf
    exact bodyPost_ret (v := .tuple #[.agg #[.int .i64 0, .int .i64 0, .int .i64 0, .int .i64 0, .int .i64 0, .int .i64 0, .slice none 0 0], .int .i64 0, .bool false]) (by simp [results, Tryd.results73, d0, d1, d2, d3, d4, d5, d6, go_sem]) rfl (ReadPost.mk ⟨0, 0, 0, 0, 0, 0, []⟩ (.slice none 0 0) 0 false rfl (WsO.nil_ _) (CGot.bad (fun hh _ _ => AA.out ((HOK.out hh).1))) xf)
  subst Ae1
  have g0 := bc.cell (i := 0) rfl
  have gz0 := bc.thaw 0
  have g1 := bc.cell (i := 1) rfl
  have gz1 := bc.thaw 1
  have g2 := bc.cell (i := 2) rfl
  have gz2 := bc.thaw 2
  have g3 := bc.cell (i := 3) rfl
  have gz3 := bc.thaw 3
  have g4 := bc.cell (i := 4) rfl
  have gz4 := bc.thaw 4
  have g5 := bc.cell (i := 5) rfl
  have gz5 := bc.thaw 5
  have g6 := bc.cell (i := 6) rfl
  have gz6 := bc.thaw 6
  obtain ⟨sa, sb⟩ := SA1.out
  go_wp2_with fail
  clear sa sb
  clear g0 gz0 g1 gz1 g2 gz2 g3 gz3 g4 gz4 g5 gz5 g6 gz6
  replace bc := bc.set 0 (.int .i64 (x1 : Int))
  replace bn := bn.apart (a := ⟨cb, 0, none⟩) (.int .i64 (x1 : Int)) (fun e => HNE.out e.symm)
  replace hx := hx.setCell (p := ⟨cb, 0, none⟩) HCW.out (.int .i64 (x1 : Int))
  simp only [List.set_cons_zero, List.set_cons_succ] at bc
  generalize W.setCell ⟨cb, 0, none⟩ (.int .i64 (x1 : Int)) = W1 at *
  have hx : Ext w W1 := hx
  refine (t2.out _ _ (S1.out _ _ (HB.out.ext hx))).mono ?_
  rintro en w2 ⟨rfl, rfl⟩
  clear t2 S1 SA1
  by_cases Ae2 : e2 = 0
  rotate_left
  · have hb0 : ((e2 : Int) != 0) = true := by rw [bne_iff_ne]; omega
    have AA := Lib.hid Ae2
    clear Ae2
    have f0 := bn.cell (i := 0) rfl
    have fz0 := bn.thaw 0
    have f1 := bn.cell (i := 1) rfl
    have fz1 := bn.thaw 1
    have f2 := bn.cell (i := 2) rfl
    have fz2 := bn.thaw 2
    have f3 := bn.cell (i := 3) rfl
    have fz3 := bn.thaw 3
    have f4 := bn.cell (i := 4) rfl
    have fz4 := bn.thaw 4
    have f5 := bn.cell (i := 5) rfl
    have fz5 := bn.thaw 5
    have f6 := bn.cell (i := 6) rfl
    have fz6 := bn.thaw 6
    have g0 := bc.cell (i := 0) rfl
    have gz0 := bc.thaw 0
    have g1 := bc.cell (i := 1) rfl
    have gz1 := bc.thaw 1
    have g2 := bc.cell (i := 2) rfl
    have gz2 := bc.thaw 2
    have g3 := bc.cell (i := 3) rfl
    have gz3 := bc.thaw 3
    have g4 := bc.cell (i := 4) rfl
    have gz4 := bc.thaw 4
    have g5 := bc.cell (i := 5) rfl
    have gz5 := bc.thaw 5
    have g6 := bc.cell (i := 6) rfl
    have gz6 := bc.thaw 6
    have hne := HNE.out
    go_wp2_with fail
    have bf := set7_blk bn (.int .i64 (x1 : Int)) (.int .i64 0) (.int .i64 0) (.int .i64 0) (.int .i64 0) (.int .i64 0) (.slice none 0 0)
    have d0 := bf.cell (i := 0) rfl
    have d1 := bf.cell (i := 1) rfl
    have d2 := bf.cell (i := 2) rfl
    have d3 := bf.cell (i := 3) rfl
    have d4 := bf.cell (i := 4) rfl
    have d5 := bf.cell (i := 5) rfl
    have d6 := bf.cell (i := 6) rfl
    have xf := set7_ext hx HNW.out (.int .i64 (x1 : Int)) (.int .i64 0) (.int .i64 0) (.int .i64 0) (.int .i64 0) (.int .i64 0) (.slice none 0 0)
    unfold set7 at d0 d1 d2 d3 d4 d5 d6 xf
    exact bodyPost_ret (v := .tuple #[.agg #[.int .i64 (x1 : Int), .int .i64 0, .int .i64 0, .int .i64 0, .int .i64 0, .int .i64 0, .slice none 0 0], .int .i64 0, .bool false]) (by simp [results, Tryd.results73, d0, d1, d2, d3, d4, d5, d6, go_sem]) rfl (ReadPost.mk ⟨(x1 : Int), 0, 0, 0, 0, 0, []⟩ (.slice none 0 0) 0 false rfl (WsO.nil_ _) (CGot.bad (fun hh _ _ => AA.out ((HOK.out hh).2.1))) xf)
  subst Ae2
  have hw2 : IntKind.i64.wrap ((p1 : Int) + (n2 : Int)) = (p2 : Int) := by rw [IntWalk.i64_in _ (by have := HP2.out; omega)]; have := HP2.out; omega
  have g0 := bc.cell (i := 0) rfl
  have gz0 := bc.thaw 0
  have g1 := bc.cell (i := 1) rfl
  have gz1 := bc.thaw 1
  have g2 := bc.cell (i := 2) rfl
  have gz2 := bc.thaw 2
  have g3 := bc.cell (i := 3) rfl
  have gz3 := bc.thaw 3
  have g4 := bc.cell (i := 4) rfl
  have gz4 := bc.thaw 4
  have g5 := bc.cell (i := 5) rfl
  have gz5 := bc.thaw 5
  have g6 := bc.cell (i := 6) rfl
  have gz6 := bc.thaw 6
  obtain ⟨sa, sb⟩ := SA2.out
  go_wp2_with fail
  clear sa sb hw2
  clear g0 gz0 g1 gz1 g2 gz2 g3 gz3 g4 gz4 g5 gz5 g6 gz6
  replace bc := bc.set 1 (.int .i64 (x2 : Int))
  replace bn := bn.apart (a := ⟨cb, 1, none⟩) (.int .i64 (x2 : Int)) (fun e => HNE.out e.symm)
  replace hx := hx.setCell (p := ⟨cb, 1, none⟩) HCW.out (.int .i64 (x2 : Int))
  simp only [List.set_cons_zero, List.set_cons_succ] at bc
  generalize W1.setCell ⟨cb, 1, none⟩ (.int .i64 (x2 : Int)) = W2 at *
  have hx : Ext w W2 := hx
  refine (t3.out _ _ (S2.out _ _ (HB.out.ext hx))).mono ?_
  rintro en w3 ⟨rfl, x3⟩
  replace hx := Ext.trans hx x3
  replace bn := bn.ext x3
  replace bc := bc.ext x3
  clear x3 t3 S2 SA2
  have xs := ext_alloc w3 (.cells #[.int .i64 y3, .int .i64 z3] 27)
  by_cases A3 : e3 = 0
  rotate_left
  · have hb0 : ((e3 : Int) != 0) = true := by rw [bne_iff_ne]; omega
    have AA := Lib.hid A3
    clear A3
    replace hx := Ext.trans hx xs
    replace bn := bn.ext xs
    replace bc := bc.ext xs
    clear xs
    have f0 := bn.cell (i := 0) rfl
    have fz0 := bn.thaw 0
    have f1 := bn.cell (i := 1) rfl
    have fz1 := bn.thaw 1
    have f2 := bn.cell (i := 2) rfl
    have fz2 := bn.thaw 2
    have f3 := bn.cell (i := 3) rfl
    have fz3 := bn.thaw 3
    have f4 := bn.cell (i := 4) rfl
    have fz4 := bn.thaw 4
    have f5 := bn.cell (i := 5) rfl
    have fz5 := bn.thaw 5
    have f6 := bn.cell (i := 6) rfl
    have fz6 := bn.thaw 6
    have g0 := bc.cell (i := 0) rfl
    have gz0 := bc.thaw 0
    have g1 := bc.cell (i := 1) rfl
    have gz1 := bc.thaw 1
    have g2 := bc.cell (i := 2) rfl
    have gz2 := bc.thaw 2
    have g3 := bc.cell (i := 3) rfl
    have gz3 := bc.thaw 3
    have g4 := bc.cell (i := 4) rfl
    have gz4 := bc.thaw 4
    have g5 := bc.cell (i := 5) rfl
    have gz5 := bc.thaw 5
    have g6 := bc.cell (i := 6) rfl
    have gz6 := bc.thaw 6
    have hne := HNE.out
    go_wp2_with fail
    have bf := set7_blk bn (.int .i64 (x1 : Int)) (.int .i64 (x2 : Int)) (.int .i64 0) (.int .i64 0) (.int .i64 0) (.int .i64 0) (.slice none 0 0)
    have d0 := bf.cell (i := 0) rfl
    have d1 := bf.cell (i := 1) rfl
    have d2 := bf.cell (i := 2) rfl
    have d3 := bf.cell (i := 3) rfl
    have d4 := bf.cell (i := 4) rfl
    have d5 := bf.cell (i := 5) rfl
    have d6 := bf.cell (i := 6) rfl
    have xf := set7_ext hx HNW.out (.int .i64 (x1 : Int)) (.int .i64 (x2 : Int)) (.int .i64 0) (.int .i64 0) (.int .i64 0) (.int .i64 0) (.slice none 0 0)
    unfold set7 at d0 d1 d2 d3 d4 d5 d6 xf
    exact bodyPost_ret (v := .tuple #[.agg #[.int .i64 (x1 : Int), .int .i64 (x2 : Int), .int .i64 0, .int .i64 0, .int .i64 0, .int .i64 0, .slice none 0 0], .int .i64 0, .bool false]) (by simp [results, Tryd.results73, d0, d1, d2, d3, d4, d5, d6, go_sem]) rfl (ReadPost.mk ⟨(x1 : Int), (x2 : Int), 0, 0, 0, 0, []⟩ (.slice none 0 0) 0 false rfl (WsO.nil_ _) (CGot.bad (fun hh _ _ => AA.out (HOK.out hh).2.2.1)) xf)
  subst A3
  have bs := Blk.new w3 #[.int .i64 y3, .int .i64 z3] 27
  have HSC := Lib.hid (Nat.ne_of_gt bc.lt)
  replace hx := Ext.trans hx xs
  replace bn := bn.ext xs
  replace bc := bc.ext xs
  clear xs
  have s0 := bs.cell (i := 0) rfl
  have s1 := bs.cell (i := 1) rfl
  have g0 := bc.cell (i := 0) rfl
  have gz0 := bc.thaw 0
  have g1 := bc.cell (i := 1) rfl
  have gz1 := bc.thaw 1
  have g2 := bc.cell (i := 2) rfl
  have gz2 := bc.thaw 2
  have g3 := bc.cell (i := 3) rfl
  have gz3 := bc.thaw 3
  have g4 := bc.cell (i := 4) rfl
  have gz4 := bc.thaw 4
  have g5 := bc.cell (i := 5) rfl
  have gz5 := bc.thaw 5
  have g6 := bc.cell (i := 6) rfl
  have gz6 := bc.thaw 6
  have hne2 := HSC.out
  have hw3 : IntKind.i64.wrap ((p2 : Int) + (n3 : Int)) = (p3 : Int) := by rw [IntWalk.i64_in _ (by have := HP3.out; omega)]; have := HP3.out; omega
  obtain ⟨sa, sb⟩ := SA3.out
  go_wp2_with fail
  clear sa sb hw3 s0 s1 hne2
  clear g0 gz0 g1 gz1 g2 gz2 g3 gz3 g4 gz4 g5 gz5 g6 gz6
  replace bc := bc.set 2 (.int .i64 y3)
  replace bn := bn.apart (a := ⟨cb, 2, none⟩) (.int .i64 y3) (fun e => HNE.out e.symm)
  replace hx := hx.setCell (p := ⟨cb, 2, none⟩) HCW.out (.int .i64 y3)
  replace bc := bc.set 3 (.int .i64 z3)
  replace bn := bn.apart (a := ⟨cb, 3, none⟩) (.int .i64 z3) (fun e => HNE.out e.symm)
  replace hx := hx.setCell (p := ⟨cb, 3, none⟩) HCW.out (.int .i64 z3)
  simp only [List.set_cons_zero, List.set_cons_succ] at bc
  clear bs HSC
  generalize ((w3.alloc (.cells #[.int .i64 y3, .int .i64 z3] 27)).setCell ⟨cb, 2, none⟩ (.int .i64 y3)).setCell ⟨cb, 3, none⟩ (.int .i64 z3) = W3 at *
  have hx : Ext w W3 := hx
  refine (t4.out _ _ (S3.out _ _ (HB.out.ext hx))).mono ?_
  rintro en w4 ⟨rfl, x4⟩
  replace hx := Ext.trans hx x4
  replace bn := bn.ext x4
  replace bc := bc.ext x4
  clear x4 t4 S3 SA3
  have xs := ext_alloc w4 (.cells #[.int .i64 y4, .int .i64 z4] 29)
  by_cases A4 : e4 = 0
  rotate_left
  · have hb0 : ((e4 : Int) != 0) = true := by rw [bne_iff_ne]; omega
    have AA := Lib.hid A4
    clear A4
    replace hx := Ext.trans hx xs
    replace bn := bn.ext xs
    replace bc := bc.ext xs
    clear xs
    have f0 := bn.cell (i := 0) rfl
    have fz0 := bn.thaw 0
    have f1 := bn.cell (i := 1) rfl
    have fz1 := bn.thaw 1
    have f2 := bn.cell (i := 2) rfl
    have fz2 := bn.thaw 2
    have f3 := bn.cell (i := 3) rfl
    have fz3 := bn.thaw 3
    have f4 := bn.cell (i := 4) rfl
    have fz4 := bn.thaw 4
    have f5 := bn.cell (i := 5) rfl
    have fz5 := bn.thaw 5
    have f6 := bn.cell (i := 6) rfl
    have fz6 := bn.thaw 6
    have g0 := bc.cell (i := 0) rfl
    have gz0 := bc.thaw 0
    have g1 := bc.cell (i := 1) rfl
    have gz1 := bc.thaw 1
    have g2 := bc.cell (i := 2) rfl
    have gz2 := bc.thaw 2
    have g3 := bc.cell (i := 3) rfl
    have gz3 := bc.thaw 3
    have g4 := bc.cell (i := 4) rfl
    have gz4 := bc.thaw 4
    have g5 := bc.cell (i := 5) rfl
    have gz5 := bc.thaw 5
    have g6 := bc.cell (i := 6) rfl
    have gz6 := bc.thaw 6
    have hne := HNE.out
    go_wp2_with fail
    have bf := set7_blk bn (.int .i64 (x1 : Int)) (.int .i64 (x2 : Int)) (.int .i64 y3) (.int .i64 z3) (.int .i64 0) (.int .i64 0) (.slice none 0 0)
    have d0 := bf.cell (i := 0) rfl
    have d1 := bf.cell (i := 1) rfl
    have d2 := bf.cell (i := 2) rfl
    have d3 := bf.cell (i := 3) rfl
    have d4 := bf.cell (i := 4) rfl
    have d5 := bf.cell (i := 5) rfl
    have d6 := bf.cell (i := 6) rfl
    have xf := set7_ext hx HNW.out (.int .i64 (x1 : Int)) (.int .i64 (x2 : Int)) (.int .i64 y3) (.int .i64 z3) (.int .i64 0) (.int .i64 0) (.slice none 0 0)
    unfold set7 at d0 d1 d2 d3 d4 d5 d6 xf
    exact bodyPost_ret (v := .tuple #[.agg #[.int .i64 (x1 : Int), .int .i64 (x2 : Int), .int .i64 y3, .int .i64 z3, .int .i64 0, .int .i64 0, .slice none 0 0], .int .i64 0, .bool false]) (by simp [results, Tryd.results73, d0, d1, d2, d3, d4, d5, d6, go_sem]) rfl (ReadPost.mk ⟨(x1 : Int), (x2 : Int), y3, z3, 0, 0, []⟩ (.slice none 0 0) 0 false rfl (WsO.nil_ _) (CGot.bad (fun hh _ _ => AA.out (HOK.out hh).2.2.2.1)) xf)
  subst A4
  have bs := Blk.new w4 #[.int .i64 y4, .int .i64 z4] 29
  have HSC := Lib.hid (Nat.ne_of_gt bc.lt)
  replace hx := Ext.trans hx xs
  replace bn := bn.ext xs
  replace bc := bc.ext xs
  clear xs
  have s0 := bs.cell (i := 0) rfl
  have s1 := bs.cell (i := 1) rfl
  have g0 := bc.cell (i := 0) rfl
  have gz0 := bc.thaw 0
  have g1 := bc.cell (i := 1) rfl
  have gz1 := bc.thaw 1
  have g2 := bc.cell (i := 2) rfl
  have gz2 := bc.thaw 2
  have g3 := bc.cell (i := 3) rfl
  have gz3 := bc.thaw 3
  have g4 := bc.cell (i := 4) rfl
  have gz4 := bc.thaw 4
  have g5 := bc.cell (i := 5) rfl
  have gz5 := bc.thaw 5
  have g6 := bc.cell (i := 6) rfl
  have gz6 := bc.thaw 6
  have hne2 := HSC.out
  have hw4 : IntKind.i64.wrap ((p3 : Int) + (n4 : Int)) = (p4 : Int) := by rw [IntWalk.i64_in _ (by have := HP4.out; omega)]; have := HP4.out; omega
  obtain ⟨sa, sb⟩ := SA4.out
  go_wp2_with fail
  clear sa sb hw4 s0 s1 hne2
  clear g0 gz0 g1 gz1 g2 gz2 g3 gz3 g4 gz4 g5 gz5 g6 gz6
  replace bc := bc.set 4 (.int .i64 y4)
  replace bn := bn.apart (a := ⟨cb, 4, none⟩) (.int .i64 y4) (fun e => HNE.out e.symm)
  replace hx := hx.setCell (p := ⟨cb, 4, none⟩) HCW.out (.int .i64 y4)
  replace bc := bc.set 5 (.int .i64 z4)
  replace bn := bn.apart (a := ⟨cb, 5, none⟩) (.int .i64 z4) (fun e => HNE.out e.symm)
  replace hx := hx.setCell (p := ⟨cb, 5, none⟩) HCW.out (.int .i64 z4)
  simp only [List.set_cons_zero, List.set_cons_succ] at bc
  clear bs HSC
  generalize ((w4.alloc (.cells #[.int .i64 y4, .int .i64 z4] 29)).setCell ⟨cb, 4, none⟩ (.int .i64 y4)).setCell ⟨cb, 5, none⟩ (.int .i64 z4) = W4 at *
  have hx : Ext w W4 := hx
  refine (t5.out _ _ (S4.out _ _ (HB.out.ext hx))).mono ?_
  rintro en w5 ⟨rfl, rfl⟩
  clear t5 S4 SA4
  by_cases Ae5 : e5 = 0
  rotate_left
  · have hb0 : ((e5 : Int) != 0) = true := by rw [bne_iff_ne]; omega
    have AA := Lib.hid Ae5
    clear Ae5
    have f0 := bn.cell (i := 0) rfl
    have fz0 := bn.thaw 0
    have f1 := bn.cell (i := 1) rfl
    have fz1 := bn.thaw 1
    have f2 := bn.cell (i := 2) rfl
    have fz2 := bn.thaw 2
    have f3 := bn.cell (i := 3) rfl
    have fz3 := bn.thaw 3
    have f4 := bn.cell (i := 4) rfl
    have fz4 := bn.thaw 4
    have f5 := bn.cell (i := 5) rfl
    have fz5 := bn.thaw 5
    have f6 := bn.cell (i := 6) rfl
    have fz6 := bn.thaw 6
    have g0 := bc.cell (i := 0) rfl
    have gz0 := bc.thaw 0
    have g1 := bc.cell (i := 1) rfl
    have gz1 := bc.thaw 1
    have g2 := bc.cell (i := 2) rfl
    have gz2 := bc.thaw 2
    have g3 := bc.cell (i := 3) rfl
    have gz3 := bc.thaw 3
    have g4 := bc.cell (i := 4) rfl
    have gz4 := bc.thaw 4
    have g5 := bc.cell (i := 5) rfl
    have gz5 := bc.thaw 5
    have g6 := bc.cell (i := 6) rfl
    have gz6 := bc.thaw 6
    have hne := HNE.out
    go_wp2_with fail
    have bf := set7_blk bn (.int .i64 (x1 : Int)) (.int .i64 (x2 : Int)) (.int .i64 y3) (.int .i64 z3) (.int .i64 y4) (.int .i64 z4) (.slice none 0 0)
    have d0 := bf.cell (i := 0) rfl
    have d1 := bf.cell (i := 1) rfl
    have d2 := bf.cell (i := 2) rfl
    have d3 := bf.cell (i := 3) rfl
    have d4 := bf.cell (i := 4) rfl
    have d5 := bf.cell (i := 5) rfl
    have d6 := bf.cell (i := 6) rfl
    have xf := set7_ext hx HNW.out (.int .i64 (x1 : Int)) (.int .i64 (x2 : Int)) (.int .i64 y3) (.int .i64 z3) (.int .i64 y4) (.int .i64 z4) (.slice none 0 0)
    unfold set7 at d0 d1 d2 d3 d4 d5 d6 xf
    exact bodyPost_ret (v := .tuple #[.agg #[.int .i64 (x1 : Int), .int .i64 (x2 : Int), .int .i64 y3, .int .i64 z3, .int .i64 y4, .int .i64 z4, .slice none 0 0], .int .i64 0, .bool false]) (by simp [results, Tryd.results73, d0, d1, d2, d3, d4, d5, d6, go_sem]) rfl (ReadPost.mk ⟨(x1 : Int), (x2 : Int), y3, z3, y4, z4, []⟩ (.slice none 0 0) 0 false rfl (WsO.nil_ _) (CGot.bad (fun hh _ _ => AA.out ((HOK.out hh).2.2.2.2))) xf)
  subst Ae5
  by_cases hbig : 8 < x5
  · have hb0 : (8 : Int) < (x5 : Int) := by omega
    have AA := Lib.hid hbig
    clear hbig
    have f0 := bn.cell (i := 0) rfl
    have fz0 := bn.thaw 0
    have f1 := bn.cell (i := 1) rfl
    have fz1 := bn.thaw 1
    have f2 := bn.cell (i := 2) rfl
    have fz2 := bn.thaw 2
    have f3 := bn.cell (i := 3) rfl
    have fz3 := bn.thaw 3
    have f4 := bn.cell (i := 4) rfl
    have fz4 := bn.thaw 4
    have f5 := bn.cell (i := 5) rfl
    have fz5 := bn.thaw 5
    have f6 := bn.cell (i := 6) rfl
    have fz6 := bn.thaw 6
    have g0 := bc.cell (i := 0) rfl
    have gz0 := bc.thaw 0
    have g1 := bc.cell (i := 1) rfl
    have gz1 := bc.thaw 1
    have g2 := bc.cell (i := 2) rfl
    have gz2 := bc.thaw 2
    have g3 := bc.cell (i := 3) rfl
    have gz3 := bc.thaw 3
    have g4 := bc.cell (i := 4) rfl
    have gz4 := bc.thaw 4
    have g5 := bc.cell (i := 5) rfl
    have gz5 := bc.thaw 5
    have g6 := bc.cell (i := 6) rfl
    have gz6 := bc.thaw 6
    have hne := HNE.out
    go_wp2_with fail
    have bf := set7_blk bn (.int .i64 (x1 : Int)) (.int .i64 (x2 : Int)) (.int .i64 y3) (.int .i64 z3) (.int .i64 y4) (.int .i64 z4) (.slice none 0 0)
    have d0 := bf.cell (i := 0) rfl
    have d1 := bf.cell (i := 1) rfl
    have d2 := bf.cell (i := 2) rfl
    have d3 := bf.cell (i := 3) rfl
    have d4 := bf.cell (i := 4) rfl
    have d5 := bf.cell (i := 5) rfl
    have d6 := bf.cell (i := 6) rfl
    have xf := set7_ext hx HNW.out (.int .i64 (x1 : Int)) (.int .i64 (x2 : Int)) (.int .i64 y3) (.int .i64 z3) (.int .i64 y4) (.int .i64 z4) (.slice none 0 0)
    unfold set7 at d0 d1 d2 d3 d4 d5 d6 xf
    exact bodyPost_ret (v := .tuple #[.agg #[.int .i64 (x1 : Int), .int .i64 (x2 : Int), .int .i64 y3, .int .i64 z3, .int .i64 y4, .int .i64 z4, .slice none 0 0], .int .i64 0, .bool false]) (by simp [results, Tryd.results73, d0, d1, d2, d3, d4, d5, d6, go_sem]) rfl (ReadPost.mk ⟨(x1 : Int), (x2 : Int), y3, z3, y4, z4, []⟩ (.slice none 0 0) 0 false rfl (WsO.nil_ _) (CGot.bad (fun _ hh _ => by rw [HHD.out] at hh; have := AA.out; dsimp only at hh; omega)) xf)
  have hb0 : ¬ (8 : Int) < (x5 : Int) := by omega
  have hw5 : IntKind.i64.wrap ((p4 : Int) + (n5 : Int)) = (p5 : Int) := by rw [IntWalk.i64_in _ (by have := HP5.out; omega)]; have := HP5.out; omega
  go_wp2_with fail
  clear hw5 hb0
  have hlt1 := bn.lt
  have hlt2 := bc.lt
  have HG := Lib.hid (⟨hx, bc, bn, World.ownsRow_nil _ _ _ _, rfl, HNE.out, hlt2, hlt1, HCW.out, HNW.out, Nat.le_refl _⟩ : RSt w W4 cb nb W4.heap.size [.int .i64 (x1 : Int), .int .i64 (x2 : Int), .int .i64 y3, .int .i64 z3, .int .i64 y4, .int .i64 z4] (.slice none 0 0) [])
  clear bn bc hx hlt1 hlt2
  obtain ⟨base, hbase⟩ : ∃ n, n = W4.heap.size := ⟨_, rfl⟩
  rw [← hbase] at HG
  clear hbase
  obtain ⟨i0, hi0, hz0, hz1, hz2⟩ := info_parts infoWr
  have HI0 := Lib.hid hi0
  have HZ0 := Lib.hid hz0
  have HZ1 := Lib.hid hz1
  have HZ2 := Lib.hid hz2
  clear hi0 hz0 hz1 hz2
  go_loopw [7, 12] (fun at_ i wr => ∃ acc vs a, i = .int .i64 (acc.length : Nat) ∧ at_ = .int .i64 (a : Nat) ∧ RSt w wr cb nb base [.int .i64 (x1 : Int), .int .i64 (x2 : Int), .int .i64 y3, .int .i64 z3, .int .i64 y4, .int .i64 z4] vs acc ∧ a ≤ b.length ∧ acc.length ≤ x5 ∧ (∀ x ∈ acc, x.fits) ∧
    rdAll b x5 (p5, false) = (acc ++ (rdAll b (x5 - acc.length) (a, false)).1, (rdAll b (x5 - acc.length) (a, false)).2)) (fun _ i _ => x5 - (intOf i).toNat)
  case atStart => exact ⟨[], _, p5, rfl, rfl, HG.out, le5, Nat.zero_le _, by simp, rfl⟩
  case round =>
    obtain ⟨acc, vs, a, rfl, rfl, hG, ha, hacc, hfit, hall⟩ := hrel
    obtain ⟨Av, cv, rfl⟩ := hG.form
    have HG1 := Lib.hid hG
    have HFIT := Lib.hid hfit
    have HALL := Lib.hid hall
    clear hG hfit hall
    by_cases hlt : acc.length < x5
    · have hlt' : (acc.length : Int) < (x5 : Int) := by omega
      obtain ⟨SL, sa, sb, hs⟩ := slice_from_run A b.length c a ha
      have HSL := Lib.hid hs
      clear hs
      go_wp2_with fail
      clear sa sb
      have hbs := HSL.out _ _ (HB.out.ext HG1.out.ext)
      obtain ⟨Aq, cq, hSL, _⟩ := hbs.open_
      subst hSL
      refine (rget_any Aq cq (b.drop a) wr hbs (by rw [List.length_drop]; omega)).mono ?_
      rintro en w6 ⟨y, n, ok, rfl, hgot, x6⟩
      clear hbs HSL
      have HG2 := Lib.hid (HG1.out.more_ (x6.trans (ext_alloc w6 (.cells #[.string ⟨y.key.toArray⟩, .int .i64 y.group, .bool y.gone, .string ⟨y.value.toArray⟩] 62))))
      clear x6
      unfold strV
      cases ok
      · have AA := Lib.hid (hgot.2 rfl)
        clear hgot
        have bn := HG2.out.res
        have bc := HG2.out.chg
        have f0 := bn.cell (i := 0) rfl
        have fz0 := bn.thaw 0
        have f1 := bn.cell (i := 1) rfl
        have fz1 := bn.thaw 1
        have f2 := bn.cell (i := 2) rfl
        have fz2 := bn.thaw 2
        have f3 := bn.cell (i := 3) rfl
        have fz3 := bn.thaw 3
        have f4 := bn.cell (i := 4) rfl
        have fz4 := bn.thaw 4
        have f5 := bn.cell (i := 5) rfl
        have fz5 := bn.thaw 5
        have f6 := bn.cell (i := 6) rfl
        have fz6 := bn.thaw 6
        have g0 := bc.cell (i := 0) rfl
        have gz0 := bc.thaw 0
        have g1 := bc.cell (i := 1) rfl
        have gz1 := bc.thaw 1
        have g2 := bc.cell (i := 2) rfl
        have gz2 := bc.thaw 2
        have g3 := bc.cell (i := 3) rfl
        have gz3 := bc.thaw 3
        have g4 := bc.cell (i := 4) rfl
        have gz4 := bc.thaw 4
        have g5 := bc.cell (i := 5) rfl
        have gz5 := bc.thaw 5
        have g6 := bc.cell (i := 6) rfl
        have gz6 := bc.thaw 6
        have hne := HNE.out
        go_wp2_with fail
        have bf := set7_blk bn (.int .i64 (x1 : Int)) (.int .i64 (x2 : Int)) (.int .i64 y3) (.int .i64 z3) (.int .i64 y4) (.int .i64 z4) (.slice Av acc.length cv)
        have d0 := bf.cell (i := 0) rfl
        have d1 := bf.cell (i := 1) rfl
        have d2 := bf.cell (i := 2) rfl
        have d3 := bf.cell (i := 3) rfl
        have d4 := bf.cell (i := 4) rfl
        have d5 := bf.cell (i := 5) rfl
        have d6 := bf.cell (i := 6) rfl
        have xf := set7_ext HG2.out.ext HNW.out (.int .i64 (x1 : Int)) (.int .i64 (x2 : Int)) (.int .i64 y3) (.int .i64 z3) (.int .i64 y4) (.int .i64 z4) (.slice Av acc.length cv)
        have wf := HG2.out.ws HFIT.out (.int .i64 (x1 : Int)) (.int .i64 (x2 : Int)) (.int .i64 y3) (.int .i64 z3) (.int .i64 y4) (.int .i64 z4) (.slice Av acc.length cv)
        unfold set7 at d0 d1 d2 d3 d4 d5 d6 xf wf
        exact bodyPost_ret (v := .tuple #[.agg #[.int .i64 (x1 : Int), .int .i64 (x2 : Int), .int .i64 y3, .int .i64 z3, .int .i64 y4, .int .i64 z4, .slice Av acc.length cv], .int .i64 0, .bool false]) (by simp [results, Tryd.results73, d0, d1, d2, d3, d4, d5, d6, go_sem]) rfl (ReadPost.mk ⟨(x1 : Int), (x2 : Int), y3, z3, y4, z4, acc⟩ (.slice Av acc.length cv) 0 false rfl (wf) (CGot.bad (fun _ _ hh => by rw [HHD.out] at hh; dsimp only at hh; rw [show min x5 9 = x5 by omega] at hh; exact ref_fail HALL.out hlt AA.out hh)) xf)
      · have hwr := hgot.1 rfl
        clear hgot
        have hsh := rdWrite_shift b a 0 false
        rw [Nat.add_zero, hwr] at hsh
        dsimp only at hsh
        have hin := rdWrite_in b (a, false) ha (by omega)
        rw [hsh] at hin
        have HSH := Lib.hid hsh
        obtain ⟨hle, hyf⟩ := hin
        dsimp only at hle hyf
        have HYF := Lib.hid hyf
        clear hwr hsh hyf
        have bn := HG2.out.res
        have bc := HG2.out.chg
        have bw := Blk.new w6 #[.string ⟨y.key.toArray⟩, .int .i64 y.group, .bool y.gone, .string ⟨y.value.toArray⟩] 62
        have g6 := bc.cell (i := 6) rfl
        have gz6 := bc.thaw 6
        have w0 := bw.cell (i := 0) rfl
        have w1 := bw.cell (i := 1) rfl
        have w2 := bw.cell (i := 2) rfl
        have w3' := bw.cell (i := 3) rfl
        have hww : IntKind.i64.wrap ((a : Int) + (n : Int)) = ((a + n : Nat) : Int) := by rw [IntWalk.i64_in _ (by omega)]; omega
        go_wp2_with (at_builtin; refine wpList_append_own_at _ rfl (.tmp 110) (.tmp 112) 30 rfl base 62 i0 (.agg #[.string ⟨#[]⟩, .int .i64 0, .bool false, .string ⟨#[]⟩]) 4 48 Tryd.underlying30 HI0.out HZ0.out HZ1.out HZ2.out rfl (by decide) _ acc.length (wcells acc) rfl (HG2.out.row.alloc _) ⟨w6.heap.size + 1, 0, none⟩ 1 1 [strV y.key, .int .i64 y.group, .bool y.gone, strV y.value] rfl rfl (four_new' (by simp) _ _ _ _ _) (four_one _ _ _ _) (by unfold maxLen; omega) (by omega) (by have := HG2.out.hb; simp; simp at this; omega) ?_; intro v' w7 hown hgrow _ _; obtain ⟨hbk, hg3⟩ := RSt.more HG2.out hown rfl rfl hgrow; obtain ⟨g', cap', rfl⟩ := own_succ hown; have d6 := hbk.cell (i := 6) rfl; have dz6 := hbk.thaw 6; have HG3 := Lib.hid hg3; clear hbk hg3 hown hgrow)
        go_roundw
        case rel => exact ⟨acc ++ [y], _, a + n, by simp, rfl, HG3.out, hle, by simp; omega, fun x hx => by
          rcases List.mem_append.1 hx with hx | hx
          · exact HFIT.out x hx
          · rw [List.mem_singleton.1 hx]; exact HYF.out, by
          rw [HALL.out, show x5 - acc.length = (x5 - (acc ++ [y]).length) + 1 by simp; omega, rdAll_step _ _ _ rfl, HSH.out]
          simp⟩
        case measure => simp [intOf]; omega
    · have hal : acc.length = x5 := by omega
      have HRC := Lib.hid (show rdChange b = (⟨(x1 : Int), (x2 : Int), y3, z3, y4, z4, acc⟩, a, false) by
        have h1 := HALL.out
        rw [hal, Nat.sub_self, rdAll, List.append_nil] at h1
        unfold rdChange
        rw [HHD.out]
        dsimp only
        rw [show min x5 9 = x5 by omega, show ((!((0 : Nat) == 0)) || !((0 : Nat) == 0) || !((0 : Nat) == 0) || !((0 : Nat) == 0) || !((0 : Nat) == 0)) = false from rfl, h1])
      have hge : ¬ (acc.length : Int) < (x5 : Int) := by omega
      clear hal hlt
      have bn := HG1.out.res
      have bc := HG1.out.chg
      have f0 := bn.cell (i := 0) rfl
      have fz0 := bn.thaw 0
      have f1 := bn.cell (i := 1) rfl
      have fz1 := bn.thaw 1
      have f2 := bn.cell (i := 2) rfl
      have fz2 := bn.thaw 2
      have f3 := bn.cell (i := 3) rfl
      have fz3 := bn.thaw 3
      have f4 := bn.cell (i := 4) rfl
      have fz4 := bn.thaw 4
      have f5 := bn.cell (i := 5) rfl
      have fz5 := bn.thaw 5
      have f6 := bn.cell (i := 6) rfl
      have fz6 := bn.thaw 6
      have g0 := bc.cell (i := 0) rfl
      have gz0 := bc.thaw 0
      have g1 := bc.cell (i := 1) rfl
      have gz1 := bc.thaw 1
      have g2 := bc.cell (i := 2) rfl
      have gz2 := bc.thaw 2
      have g3 := bc.cell (i := 3) rfl
      have gz3 := bc.thaw 3
      have g4 := bc.cell (i := 4) rfl
      have gz4 := bc.thaw 4
      have g5 := bc.cell (i := 5) rfl
      have gz5 := bc.thaw 5
      have g6 := bc.cell (i := 6) rfl
      have gz6 := bc.thaw 6
      have hne := HNE.out
      go_wp2_with fail
      have bf := set7_blk bn (.int .i64 (x1 : Int)) (.int .i64 (x2 : Int)) (.int .i64 y3) (.int .i64 z3) (.int .i64 y4) (.int .i64 z4) (.slice Av acc.length cv)
      have d0 := bf.cell (i := 0) rfl
      have d1 := bf.cell (i := 1) rfl
      have d2 := bf.cell (i := 2) rfl
      have d3 := bf.cell (i := 3) rfl
      have d4 := bf.cell (i := 4) rfl
      have d5 := bf.cell (i := 5) rfl
      have d6 := bf.cell (i := 6) rfl
      have xf := set7_ext HG1.out.ext HNW.out (.int .i64 (x1 : Int)) (.int .i64 (x2 : Int)) (.int .i64 y3) (.int .i64 z3) (.int .i64 y4) (.int .i64 z4) (.slice Av acc.length cv)
      have wf := HG1.out.ws HFIT.out (.int .i64 (x1 : Int)) (.int .i64 (x2 : Int)) (.int .i64 y3) (.int .i64 z3) (.int .i64 y4) (.int .i64 z4) (.slice Av acc.length cv)
      unfold set7 at d0 d1 d2 d3 d4 d5 d6 xf wf
      exact bodyPost_ret (v := .tuple #[.agg #[.int .i64 (x1 : Int), .int .i64 (x2 : Int), .int .i64 y3, .int .i64 z3, .int .i64 y4, .int .i64 z4, .slice Av acc.length cv], .int .i64 (a : Int), .bool true]) (by simp [results, Tryd.results73, d0, d1, d2, d3, d4, d5, d6, go_sem]) rfl (ReadPost.mk ⟨(x1 : Int), (x2 : Int), y3, z3, y4, z4, acc⟩ (.slice Av acc.length cv) a true rfl (wf) (CGot.good HRC.out) xf)
end Go.Proofs.YtacabcpjaadijaaDoor

/-
  The document's Get of changes.
-/
namespace Go.Proofs.YtacabcpjaadijaaDoor
open Go Go.RowKit Mono Num
set_option linter.unusedVariables false
set_option linter.unusedSimpArgs false
set_option maxRecDepth 10000
theorem Ws.set7 {w : World} {v : Value} {l : List Wr} {B : World} (h : Ws w v l) (he : Ext B w) (h0 : Ws w v l) : True := trivial
theorem ws_gb {w w' : World} {v : Value} {l : List Wr} {r : Nat} (h : Ws w v l) (hg : w.grownBy w' (some r)) (hn : ∀ A n c, v = .slice (some A) n c → 0 < l.length → A.block ≠ r) : Ws w' v l := by
  obtain ⟨⟨A, c, hv, h1, h2, h3, h4⟩, hin⟩ := h
  refine ⟨⟨A, c, hv, h1, h2, h3, fun h0 => ?_⟩, hin⟩
  obtain ⟨b, off, hA, hb, hc⟩ := h4 h0
  subst hA
  have hne := hn _ _ _ hv h0
  have hcell : ∀ o, w'.cell? ⟨b, o, none⟩ = w.cell? ⟨b, o, none⟩ := fun o => by
    have := hg.block b hb (fun e => hne (Option.some.inj e))
    simp [World.cell?, this]
  exact ⟨b, off, rfl, Nat.lt_of_lt_of_le hb hg.size, fun i x hx => by rw [hcell, hcell, hcell, hcell]; exact hc i x hx⟩
theorem ws_ne {w w' : World} {v : Value} {l : List Wr} {r : Nat} {L : List Value} (h : Ws w v l) (hb : Blk w r L) (hcell : ∀ x, L[0]? ≠ some (strV x)) (hw : ∀ o x, w.cell? ⟨r, o, none⟩ = some (strV x) → False) : ∀ A n c, v = .slice (some A) n c → 0 < l.length → A.block ≠ r := by
  obtain ⟨⟨A, c, hv, h1, h2, h3, h4⟩, hin⟩ := h
  intro A' n' c' hv' h0 he
  obtain ⟨b, off, hA, hb', hc⟩ := h4 h0
  rw [hv] at hv'
  injection hv' with e1 _ _
  rw [hA] at e1
  injection e1 with e1
  subst e1
  have := (hc 0 l[0] (List.getElem?_eq_getElem h0)).1
  dsimp only at he
  subst he
  exact hw _ _ this
/-- A block without texts holds no writes. -/
theorem ws_apart {w : World} {v : Value} {l : List Wr} {r : Nat} (h : Ws w v l) (hb : Blk w r [.int .i64 0, .int .i64 0, .int .i64 0, .int .i64 0, .int .i64 0, .int .i64 0, .slice none 0 0]) : ∀ A n c, v = .slice (some A) n c → 0 < l.length → A.block ≠ r := by
  refine ws_ne (w' := w) h hb (fun x hx => by simp [strV] at hx) fun o x hx => ?_
  obtain ⟨T, hT⟩ := hb
  simp only [World.cell?, hT] at hx
  match o, hx with
  | 0, hx => simp [strV] at hx
  | 1, hx => simp [strV] at hx
  | 2, hx => simp [strV] at hx
  | 3, hx => simp [strV] at hx
  | 4, hx => simp [strV] at hx
  | 5, hx => simp [strV] at hx
  | 6, hx => simp [strV] at hx
  | k + 7, hx => simp at hx

set_option maxHeartbeats 8000000 in
theorem refChGet_any (A : Option Addr) (c : Nat) (b : List UInt8) (vl : Value) (gs : List Grp) (w : World) (hb : Bs w (.slice A b.length c) b) (hbl : b.length ≤ 20000) (hl : Gs w vl gs) :
    Calls Tryd.prog 38 #[.slice A b.length c, vl] w fun en w' => ∃ vw, en = .returned (.tuple #[chV (cgetP gs b).1 vw, .int .i64 ((cgetP gs b).2.1 : Int), .int .i64 ((cgetP gs b).2.2 : Int)]) ∧ WsO w' vw (cgetP gs b).1.writes ∧ Ext w w' := by
  have HB := Lib.hid hb
  have HLG := Lib.hid hl
  clear hb hl
  go_enter Tryd.func38, Tryd.ntmps38
  go_wp2_with fail
  have bn := Blk.new w #[.int .i64 0, .int .i64 0, .int .i64 0, .int .i64 0, .int .i64 0, .int .i64 0, .slice none 0 0] 32
  have hx := ext_alloc w (.cells #[.int .i64 0, .int .i64 0, .int .i64 0, .int .i64 0, .int .i64 0, .int .i64 0, .slice none 0 0] 32)
  obtain ⟨nb, hnb⟩ : ∃ n, n = w.heap.size := ⟨_, rfl⟩
  have tb := BlkC.new w #[.int .i64 0, .int .i64 0, .int .i64 0, .int .i64 0, .int .i64 0, .int .i64 0, .slice none 0 0]
  rw [← hnb] at bn tb ⊢
  have HNW := Lib.hid (show w.heap.size ≤ nb by omega)
  clear hnb
  generalize w.alloc (.cells #[.int .i64 0, .int .i64 0, .int .i64 0, .int .i64 0, .int .i64 0, .int .i64 0, .slice none 0 0] 32) = W at *
  refine (refGood_any vl gs W (HLG.out.ext hx)).mono ?_
  rintro e w1 ⟨rfl, x1⟩
  replace hx := Ext.trans hx x1
  replace bn := bn.ext x1
  have HTB := Lib.hid (tb.ext x1)
  clear tb
  clear x1
  by_cases hp : pgood gs = 0
  rotate_left
  · have HR := Lib.hid (show cgetP gs b = (Ch.nought, 0, pgood gs) by unfold cgetP; rw [if_pos hp])
    have hp0 : (((pgood gs : Nat) : Int) != 0) = true := by rw [bne_iff_ne]; omega
    clear hp
    have f0 := bn.cell (i := 0) rfl
    have fz0 := bn.thaw 0
    have f1 := bn.cell (i := 1) rfl
    have fz1 := bn.thaw 1
    have f2 := bn.cell (i := 2) rfl
    have fz2 := bn.thaw 2
    have f3 := bn.cell (i := 3) rfl
    have fz3 := bn.thaw 3
    have f4 := bn.cell (i := 4) rfl
    have fz4 := bn.thaw 4
    have f5 := bn.cell (i := 5) rfl
    have fz5 := bn.thaw 5
    have f6 := bn.cell (i := 6) rfl
    have fz6 := bn.thaw 6
    go_wp2_with fail
    have bf := set7_blk bn (.int .i64 0) (.int .i64 0) (.int .i64 0) (.int .i64 0) (.int .i64 0) (.int .i64 0) (.slice none 0 0)
    have d0 := bf.cell (i := 0) rfl
    have d1 := bf.cell (i := 1) rfl
    have d2 := bf.cell (i := 2) rfl
    have d3 := bf.cell (i := 3) rfl
    have d4 := bf.cell (i := 4) rfl
    have d5 := bf.cell (i := 5) rfl
    have d6 := bf.cell (i := 6) rfl
    have xf := set7_ext hx HNW.out (.int .i64 0) (.int .i64 0) (.int .i64 0) (.int .i64 0) (.int .i64 0) (.int .i64 0) (.slice none 0 0)
    unfold set7 at d0 d1 d2 d3 d4 d5 d6 xf
    exact bodyPost_ret (v := .tuple #[.agg #[.int .i64 0, .int .i64 0, .int .i64 0, .int .i64 0, .int .i64 0, .int .i64 0, .slice none 0 0], .int .i64 0, .int .i64 ((pgood gs : Nat) : Int)]) (by simp [results, Tryd.results38, d0, d1, d2, d3, d4, d5, d6, go_sem]) rfl ⟨.slice none 0 0, by rw [HR.out]; rfl, by rw [HR.out]; exact WsO.nil_ _, xf⟩
  rw [hp]
  have HP := Lib.hid hp
  clear hp
  go_wp2_with fail
  refine (rread_any A c b _ (HB.out.ext hx) hbl).mono ?_
  rintro en w2 ⟨⟨s1, s2, s3, s4, s5, s6, wd⟩, vw, n, ok, rfl, hwd, hgot, x2⟩
  obtain ⟨A2, c2, rfl, _⟩ := hwd.ws.at_
  have HGT := Lib.hid (hgot.get gs (by omega) HP.out)
  clear hgot
  unfold chV
  dsimp only
  have x3 := ext_alloc w2 (.cells #[.int .i64 s1, .int .i64 s2, .int .i64 s3, .int .i64 s4, .int .i64 s5, .int .i64 s6, .slice A2 wd.length c2] 32)
  have bd := Blk.new w2 #[.int .i64 s1, .int .i64 s2, .int .i64 s3, .int .i64 s4, .int .i64 s5, .int .i64 s6, .slice A2 wd.length c2] 32
  have HND := Lib.hid (Nat.ne_of_lt (bn.ext x2).lt)
  replace hx := Ext.trans (Ext.trans hx x2) x3
  replace bn := (bn.ext x2).ext x3
  have HTC := Lib.hid ((HTB.out.ext x2).ext x3)
  clear HTB
  have HWD := Lib.hid (hwd.ext x3)
  clear x2 x3 hwd
  cases ok
  · have HR := Lib.hid (HGT.out.2 rfl)
    have f0 := bn.cell (i := 0) rfl
    have fz0 := bn.thaw 0
    have f1 := bn.cell (i := 1) rfl
    have fz1 := bn.thaw 1
    have f2 := bn.cell (i := 2) rfl
    have fz2 := bn.thaw 2
    have f3 := bn.cell (i := 3) rfl
    have fz3 := bn.thaw 3
    have f4 := bn.cell (i := 4) rfl
    have fz4 := bn.thaw 4
    have f5 := bn.cell (i := 5) rfl
    have fz5 := bn.thaw 5
    have f6 := bn.cell (i := 6) rfl
    have fz6 := bn.thaw 6
    go_wp2_with fail
    have bf := set7_blk bn (.int .i64 0) (.int .i64 0) (.int .i64 0) (.int .i64 0) (.int .i64 0) (.int .i64 0) (.slice none 0 0)
    have d0 := bf.cell (i := 0) rfl
    have d1 := bf.cell (i := 1) rfl
    have d2 := bf.cell (i := 2) rfl
    have d3 := bf.cell (i := 3) rfl
    have d4 := bf.cell (i := 4) rfl
    have d5 := bf.cell (i := 5) rfl
    have d6 := bf.cell (i := 6) rfl
    have xf := set7_ext hx HNW.out (.int .i64 0) (.int .i64 0) (.int .i64 0) (.int .i64 0) (.int .i64 0) (.int .i64 0) (.slice none 0 0)
    unfold set7 at d0 d1 d2 d3 d4 d5 d6 xf
    exact bodyPost_ret (v := .tuple #[.agg #[.int .i64 0, .int .i64 0, .int .i64 0, .int .i64 0, .int .i64 0, .int .i64 0, .slice none 0 0], .int .i64 0, .int .i64 120]) (by simp [results, Tryd.results38, d0, d1, d2, d3, d4, d5, d6, go_sem]) rfl ⟨.slice none 0 0, by rw [HR.out]; rfl, by rw [HR.out]; exact WsO.nil_ _, xf⟩
  · have hge := HGT.out.1 rfl
    have HGE := Lib.hid hge
    clear hge
    have g0 := bd.cell (i := 0) rfl
    have g1 := bd.cell (i := 1) rfl
    have g2 := bd.cell (i := 2) rfl
    have g3 := bd.cell (i := 3) rfl
    have g4 := bd.cell (i := 4) rfl
    have g5 := bd.cell (i := 5) rfl
    have g6 := bd.cell (i := 6) rfl
    go_wp2_with fail
    have hch := refChGood_any vl gs s1 s2 s3 s4 s5 s6 (.slice A2 wd.length c2) wd _ (HLG.out.ext hx) HWD.out.ws
    unfold chV at hch
    dsimp only at hch
    refine hch.mono ?_
    rintro en w3 ⟨rfl, x4⟩
    clear hch g0 g1 g2 g3 g4 g5 g6
    replace hx := Ext.trans hx x4
    replace bn := bn.ext x4
    replace bd := bd.ext x4
    have HWE := Lib.hid (HWD.out.ext x4)
    have HTD := Lib.hid (HTC.out.ext x4)
    clear x4
    by_cases hcg : cgood gs ⟨s1, s2, s3, s4, s5, s6, wd⟩ = 0
    · have HR := Lib.hid (show cgetP gs b = (⟨s1, s2, s3, s4, s5, s6, wd⟩, n, 0) by rw [HGE.out, if_pos hcg])
      rw [hcg]
      clear hcg
      have hne := HND.out
      have g0 := bd.cell (i := 0) rfl
      have g1 := bd.cell (i := 1) rfl
      have g2 := bd.cell (i := 2) rfl
      have g3 := bd.cell (i := 3) rfl
      have g4 := bd.cell (i := 4) rfl
      have g5 := bd.cell (i := 5) rfl
      have g6 := bd.cell (i := 6) rfl
      have f0 := bn.cell (i := 0) rfl
      have fz0 := bn.thaw 0
      have f1 := bn.cell (i := 1) rfl
      have fz1 := bn.thaw 1
      have f2 := bn.cell (i := 2) rfl
      have fz2 := bn.thaw 2
      have f3 := bn.cell (i := 3) rfl
      have fz3 := bn.thaw 3
      have f4 := bn.cell (i := 4) rfl
      have fz4 := bn.thaw 4
      have f5 := bn.cell (i := 5) rfl
      have fz5 := bn.thaw 5
      have f6 := bn.cell (i := 6) rfl
      have fz6 := bn.thaw 6
      go_wp2_with fail
      have bf := set7_blk bn (.int .i64 s1) (.int .i64 s2) (.int .i64 s3) (.int .i64 s4) (.int .i64 s5) (.int .i64 s6) (.slice A2 wd.length c2)
      have d0 := bf.cell (i := 0) rfl
      have d1 := bf.cell (i := 1) rfl
      have d2 := bf.cell (i := 2) rfl
      have d3 := bf.cell (i := 3) rfl
      have d4 := bf.cell (i := 4) rfl
      have d5 := bf.cell (i := 5) rfl
      have d6 := bf.cell (i := 6) rfl
      have xf := set7_ext hx HNW.out (.int .i64 s1) (.int .i64 s2) (.int .i64 s3) (.int .i64 s4) (.int .i64 s5) (.int .i64 s6) (.slice A2 wd.length c2)
      have wf := HWE.out.grown (set7_gb w3 nb (.int .i64 s1) (.int .i64 s2) (.int .i64 s3) (.int .i64 s4) (.int .i64 s5) (.int .i64 s6) (.slice A2 wd.length c2)) (fun j e => by
        injection e with e
        subst e
        obtain ⟨C, fz, hT⟩ := HTD.out
        exact ⟨_, by decide, C, fz, hT⟩)
      unfold set7 at d0 d1 d2 d3 d4 d5 d6 xf wf
      exact bodyPost_ret (v := .tuple #[.agg #[.int .i64 s1, .int .i64 s2, .int .i64 s3, .int .i64 s4, .int .i64 s5, .int .i64 s6, .slice A2 wd.length c2], .int .i64 (n : Int), .int .i64 0]) (by simp [results, Tryd.results38, d0, d1, d2, d3, d4, d5, d6, go_sem]) rfl ⟨.slice A2 wd.length c2, by rw [HR.out]; rfl, by rw [HR.out]; exact wf, xf⟩
    · have HR := Lib.hid (show cgetP gs b = (Ch.nought, 0, 120) by rw [HGE.out, if_neg hcg])
      have hb0 : (((cgood gs ⟨s1, s2, s3, s4, s5, s6, wd⟩ : Nat) : Int) != 0) = true := by rw [bne_iff_ne]; omega
      clear hcg
      have f0 := bn.cell (i := 0) rfl
      have fz0 := bn.thaw 0
      have f1 := bn.cell (i := 1) rfl
      have fz1 := bn.thaw 1
      have f2 := bn.cell (i := 2) rfl
      have fz2 := bn.thaw 2
      have f3 := bn.cell (i := 3) rfl
      have fz3 := bn.thaw 3
      have f4 := bn.cell (i := 4) rfl
      have fz4 := bn.thaw 4
      have f5 := bn.cell (i := 5) rfl
      have fz5 := bn.thaw 5
      have f6 := bn.cell (i := 6) rfl
      have fz6 := bn.thaw 6
      go_wp2_with fail
      have bf := set7_blk bn (.int .i64 0) (.int .i64 0) (.int .i64 0) (.int .i64 0) (.int .i64 0) (.int .i64 0) (.slice none 0 0)
      have d0 := bf.cell (i := 0) rfl
      have d1 := bf.cell (i := 1) rfl
      have d2 := bf.cell (i := 2) rfl
      have d3 := bf.cell (i := 3) rfl
      have d4 := bf.cell (i := 4) rfl
      have d5 := bf.cell (i := 5) rfl
      have d6 := bf.cell (i := 6) rfl
      have xf := set7_ext hx HNW.out (.int .i64 0) (.int .i64 0) (.int .i64 0) (.int .i64 0) (.int .i64 0) (.int .i64 0) (.slice none 0 0)
      unfold set7 at d0 d1 d2 d3 d4 d5 d6 xf
      exact bodyPost_ret (v := .tuple #[.agg #[.int .i64 0, .int .i64 0, .int .i64 0, .int .i64 0, .int .i64 0, .int .i64 0, .slice none 0 0], .int .i64 0, .int .i64 120]) (by simp [results, Tryd.results38, d0, d1, d2, d3, d4, d5, d6, go_sem]) rfl ⟨.slice none 0 0, by rw [HR.out]; rfl, by rw [HR.out]; exact WsO.nil_ _, xf⟩
end Go.Proofs.YtacabcpjaadijaaDoor
