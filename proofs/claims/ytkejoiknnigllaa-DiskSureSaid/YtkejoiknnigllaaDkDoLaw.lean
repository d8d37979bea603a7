/-
  Layer 15: an act on both disks.
-/
import Derived.Test.YtkejoiknnigllaaDkPair
import Derived.Laws.Closers25b
namespace Go.Proofs.Ytkejoiknnigllaa
open Go Go.RowKit Mono
set_option linter.unusedVariables false
set_option linter.unusedSimpArgs false
set_option maxRecDepth 100000
set_option maxHeartbeats 4000000

theorem xor_u8 (a b : Int) : ∃ y : UInt8, bits .xor .u8 a b = (y.toNat : Int) := by
  have h1 := bits_lo_u8 .xor a b
  have h2 := bits_hi_u8 .xor a b
  refine ⟨UInt8.ofNat (bits .xor .u8 a b).toNat, ?_⟩
  rw [UInt8.toNat_ofNat']
  omega
theorem preKb (F : Nat → Prop) : Pre (Kb F) := ⟨Kb.refl F, fun a b c h k => h.trans k (fun _ h => .inl h)⟩
/-- An act. -/
structure Act where
  kind : Int
  name : List UInt8
  data : List UInt8
  n : Int
  keep : Int
def actD (d : Dk) (a : Act) : Dk :=
  if a.kind = 0 then (dMake d a.name).1 else if a.kind = 1 then (dAppend d a.name a.data).1 else if a.kind = 2 then (dSync d a.name).1 else if a.kind = 3 then (dCut d a.name a.n).1
  else if a.kind = 4 then (dDrop d a.name).1 else if a.kind = 5 then (dArm d a.n a.keep).1 else if a.kind = 6 then (dFail d a.keep).1 else if a.kind = 7 then dPower d else d
theorem actD_ok {d : Dk} (h : d.Ok) (a : Act) : (actD d a).Ok := by
  unfold actD
  repeat' split
  · exact dMake_ok h _
  · exact dAppend_ok h _ _
  · exact dSync_ok h _
  · exact dCut_ok h _ _
  · exact dDrop_ok h _
  · exact dArm_ok h _ _
  · exact dFail_ok h _
  · exact dPower_ok h
  · exact h
theorem actD_small {c : Nat} {d : Dk} (h : d.SmallC c) (a : Act) (hn : a.n < 9223372036854775808) : (actD d a).SmallC (c + 1) := by
  unfold actD
  repeat' split
  · exact h.grow (dMake_grow _ _)
  · exact h.grow (dAppend_grow _ _ _)
  · exact h.grow (dSync_grow _ _)
  · exact h.grow (dCut_grow _ _ _)
  · exact h.grow (dDrop_grow _ _)
  · exact dArm_small h _ _ hn
  · exact h.grow (dFail_grow _ _)
  · exact dPower_small h
  · exact h.grow (Dk.Grow.refl d)
/-- The act's cells. -/
def actC (a : Act) (v : Value) : List Value := [.int .i64 a.kind, strV a.name, v, .int .i64 a.n, .int .i64 a.keep]
theorem OwB.kb {W W' : World} {z : Nat} {v : Value} {l : List UInt8} {fp : Nat → Prop} (h : OwB W z v l) (k : Kb fp W W') (hn : ∀ j, v.ownBlock = some j → ¬ fp j) : OwB W' z v l := row_kb h k hn

theorem OwB.lt2 {W : World} {z : Nat} {v : Value} {l : List UInt8} (h : OwB W z v l) : ∀ k, v.ownBlock = some k → z ≤ k := fun k hk => (World.ownsRow.lt h k hk).1
theorem OwB.lt3 {W : World} {z : Nat} {v : Value} {l : List UInt8} (h : OwB W z v l) : ∀ k, v.ownBlock = some k → k < W.heap.size := fun k hk => (World.ownsRow.lt h k hk).2

theorem empty2 (W : World) (o : Obj) : OwB ((W.alloc o).alloc (.cells #[] 5)) (W.heap.size + 1) (.slice (some ⟨W.heap.size + 1, 0, none⟩) 0 0) [] := by
  have := OwB.empty_ (W.alloc o) (Nat.le_refl _)
  rw [World.size_alloc] at this
  exact this
theorem do_pre {W W3 : World} (C : Array Value) {T : TypeId} {v1 : Value} {la : List UInt8} (hown : OwB W3 (W.heap.size + 1) v1 ([] ++ la)) (hg : ((W.alloc (.cells C T)).alloc (.cells #[] 5)).grownBy W3 (Value.slice (some ⟨W.heap.size + 1, 0, none⟩) 0 0).ownBlock) :
    ∃ Ao co, v1 = .slice Ao la.length co ∧ Ext W W3 ∧ Blk W3 W.heap.size C.toList ∧ OwB W3 (W.heap.size + 1) (.slice Ao la.length co) la := by
  have hx : Ext (W.alloc (.cells C T)) W3 := Below.growB (ext_alloc _ _) (empty2 W (.cells C T)) hg (by simp) (by simp)
  have ho : OwB W3 (W.heap.size + 1) v1 la := by simpa using hown
  obtain ⟨Ao, co, rfl, -⟩ := ho.bs.open_
  exact ⟨Ao, co, rfl, (ext_alloc _ _).trans hx, (Blk.new W C T).ext hx, ho⟩

theorem index_u8o {w : World} {o : Oper} {f : Operand → Value} {x y : Operand} {b off c n i : Nat} (hop : o.op = .indexAddr 23 x y)
    (hx : f x = .slice (some ⟨b, off, none⟩) n c) (hy : f y = .int .i64 (i : Int)) (hi : i < n) :
    (execOp f o).run Try.prog w = .ok (.value (.pointer (some ⟨b, off + i, none⟩))) w := by
  have hi' : (i : Int) < (n : Int) := by omega
  have h0 : (0 : Int) ≤ (i : Int) := by omega
  have hk : (sizeOf 5).run Try.prog w = .ok 1 w := by kernel_rfl
  simp [execOp, hop, hx, hy, Instr.indexAt, run_underlying Try.underlying23, hi', h0, hk, add_at, go_sem]
  intro h
  omega
theorem index_u8 {w : World} {o : Oper} {f : Operand → Value} {x y : Operand} {b c n i : Nat} (hop : o.op = .indexAddr 23 x y)
    (hx : f x = .slice (some ⟨b, 0, none⟩) n c) (hy : f y = .int .i64 (i : Int)) (hi : i < n) :
    (execOp f o).run Try.prog w = .ok (.value (.pointer (some ⟨b, i, none⟩))) w := by
  have := index_u8o (w := w) hop hx hy hi
  simpa using this

theorem do_0 {z bd br c : Nat} {F : Nat → Prop} {W : World} {d : Dk} (h : Pair z bd br F d d W) (hok : d.Ok) (hsm : d.SmallC c) (hc : c ≤ 1000000000) (hz : z ≤ W.heap.size) (kd : Int) (nm la : List UInt8) (an ak : Int) (hkd : kd = 0) (hl : nm.length ≤ maxLen) (hdl : la.length ≤ 20000) {v : Value} (hv : Bs W v la) (hvF : ∀ j, v.ownBlock = some j → 0 < la.length → j < W.heap.size ∧ ¬ F j) :
    Calls Try.prog 30 #[.pointer (some ⟨bd, 0, none⟩), .pointer (some ⟨br, 0, none⟩), .agg #[.int .i64 0, strV nm, v, .int .i64 an, .int .i64 ak]] W fun e w' => e = .returned (.bool true) ∧ Kb F W w' ∧ ∃ F', Pair z bd br F' (dMake d nm).1 (dMake d nm).1 w' ∧ ∀ k, F' k → F k ∨ W.heap.size ≤ k := by
  obtain ⟨Ad, cd, rfl, i1, i2, -, -⟩ := hv.open_
  subst hkd
  have HDB := Lib.hid hv
  have HOK := Lib.hid hok
  have HSM := Lib.hid (hsm.small hc)
  have HL := Lib.hid hl
  have HH := Lib.hid (h.mono (F' := fun k => F k ∧ k < W.heap.size) (fun k hk hlt _ => ⟨hk, hlt⟩))
  have HVF := Lib.hid hvF
  have HZ := Lib.hid hz
  unfold strV
  clear h hok hsm hvF hv hz
  go_enter Try.func30, Try.ntmps30
  go_wp2_with (at_builtin; refine wpList_append_bs _ rfl (.tmp 11) (.tmp 13) rfl (empty2 W (.cells #[.int .i64 0, .string ⟨nm.toArray⟩, .slice Ad la.length cd, .int .i64 an, .int .i64 ak] 44)) (HDB.out.ext ((ext_alloc _ _).trans (ext_alloc _ _))) rfl rfl (by simp; omega) (by simp) ?_; intro v1 W3 hown1 hg1 hat1; obtain ⟨Ao, co, rfl, hx, hb, ho⟩ := do_pre _ hown1 hg1; have HX3 := Lib.hid hx; have HBX0 := Lib.hid hb; have HOW := Lib.hid ho; have hkc := hb.cell (i := 0) rfl; clear hx hb ho hown1 hg1 hat1)
  obtain ⟨pa, hpa⟩ : ∃ p, p = W.heap.size := ⟨_, rfl⟩
  obtain ⟨FF, hFF⟩ : ∃ FF : Nat → Prop, FF = fun k => (F k ∧ k < W.heap.size) ∨ W3.heap.size ≤ k := ⟨_, rfl⟩
  have hsz3 : W.heap.size + 1 ≤ W3.heap.size := by have := HBX0.out.lt; omega
  have HP3 := Lib.hid (show Pair z bd br FF d d W3 by rw [hFF]; exact (HH.out.ext HX3.out).mono (fun k hk _ _ => .inl hk))
  have HFN := Lib.hid (show ∀ k, W3.heap.size ≤ k → FF k by rw [hFF]; exact fun k hk => .inr hk)
  have HFS := Lib.hid (show ∀ k, FF k → F k ∨ W.heap.size ≤ k by rw [hFF]; exact fun k hk => hk.elim (fun h => .inl h.1) (fun h => .inr (by omega)))
  have HFK := Lib.hid (show ∀ w, Kb FF W3 w → Kb F W w by
    rw [hFF]
    intro w hk
    refine (Kb.of_ext (fp := F) HX3.out).trans hk (fun b hb => ?_)
    rcases hb with hb | hb
    · exact .inl hb.1
    · exact .inr (by omega))
  have HBX := Lib.hid (show ∀ w, Kb FF W3 w → Blk w pa [.int .i64 0, .string ⟨nm.toArray⟩, .slice Ad la.length cd, .int .i64 an, .int .i64 ak] by
    rw [hFF, hpa]
    intro w hk
    obtain ⟨Tt, hb⟩ := HBX0.out
    exact ⟨Tt, (hk.block _ (Array.getElem?_eq_some_iff.1 hb).1 (fun hd => by
      rcases hd with hd | hd
      · omega
      · omega)).trans hb⟩)
  have HOWF := Lib.hid (show ∀ j, (Value.slice Ao la.length co).ownBlock = some j → ¬ FF j by
    rw [hFF]
    intro j hj hd
    have h1 := HOW.out.lt2 j hj
    have h2 := HOW.out.lt3 j hj
    rcases hd with hd | hd
    · omega
    · omega)
  have HDF := Lib.hid (show ∀ j, (Value.slice Ad la.length cd).ownBlock = some j → 0 < la.length → ¬ FF j by
    rw [hFF]
    intro j hj hp0 hd
    have h1 := HVF.out j hj hp0
    rcases hd with hd | hd
    · exact h1.2 hd.1
    · omega)
  have HDW := Lib.hid (show ∀ j, (Value.slice Ad la.length cd).ownBlock = some j → 0 < la.length → j < pa by rw [hpa]; exact fun j hj h0 => (HVF.out j hj h0).1)
  have HDB3 := Lib.hid (HDB.out.ext HX3.out)
  have HZ3 := Lib.hid (Nat.le_trans HZ.out (show W.heap.size ≤ W3.heap.size by omega))
  have HPA := Lib.hid hpa
  rw [← hpa]
  clear hpa hFF hkc hsz3 HH HVF HBX0 HDB
  refine wp_region_tok [false, false, false, true, false, false, false, true, false, false] (Kb FF) (fun c w => if c = 0 then Pair z bd br FF d d w else if c = 1 then Pair z bd br FF (dMake d nm).1 d w else Pair z bd br FF (dMake d nm).1 (dMake d nm).1 w) 2 (by kernel_rfl) (by kernel_rfl) (by kernel_rfl) (by kernel_rfl) (preKb FF) (Kb.of_ext (ext_drew W3)) (HP3.out.ext (ext_drew W3)) ?_
  refine tok_val rfl (.pointer (some ⟨bd, 0, none⟩)) (fun _ _ _ => rfl) ?_ ?_
  · rintro ρ w' he ⟨h0, -⟩
    have e0 : ρ 0 = .pointer (some ⟨bd, 0, none⟩) := h0
    simp [execOp, evR, e0, go_sem]
  refine tok_val rfl (.pointer (some ⟨pa, 1, none⟩)) (fun _ _ _ => rfl) ?_ ?_
  · rintro ρ w' he ⟨h5, -⟩
    have e5 : ρ 5 = .pointer (some ⟨pa, 0, none⟩) := h5
    simp [execOp, evR, e5, go_sem]
  refine tok_val rfl (.string ⟨nm.toArray⟩) (fun _ _ _ => rfl) ?_ ?_
  · rintro ρ w' he ⟨h20, -⟩
    have e20 : ρ 20 = .pointer (some ⟨pa, 1, none⟩) := h20
    have c := (HBX.out w' he).cell (i := 1) rfl
    simp [execOp, evR, e20, c, go_sem]
  refine tok_call rfl rfl Try.func16 (by kernel_rfl) (fun v _ => v = .int .i64 ((dMake d nm).2 : Int)) (fun _ _ _ h _ => h) (fun _ _ _ => rfl) ?_ ?_
  · rintro ρ w' he ht ⟨h19, h21, -⟩
    have e19 : ρ 19 = .pointer (some ⟨bd, 0, none⟩) := h19
    have e21 : ρ 21 = .string ⟨nm.toArray⟩ := h21
    simp only [evR, List.map_toArray, List.map_cons, List.map_nil, e19, e21]
    have hp : Pair z bd br FF d d w' := ht
    refine (Pair.d (x := dMake d nm) hp (fun k hk => HFN.out k (Nat.le_trans he.size hk)) (fun bm pl ms hm => make_any hm HOK.out HSM.out (Nat.le_trans HZ3.out he.size) nm HL.out)).mono ?_
    rintro e w'' ⟨rfl, hk, hp'⟩
    exact ⟨_, rfl, hk, rfl, hp'⟩
  refine tok_val rfl (.pointer (some ⟨br, 0, none⟩)) (fun _ _ _ => rfl) ?_ ?_
  · rintro ρ w' he ⟨h1, -⟩
    have e1 : ρ 1 = .pointer (some ⟨br, 0, none⟩) := h1
    simp [execOp, evR, e1, go_sem]
  refine tok_val rfl (.pointer (some ⟨pa, 1, none⟩)) (fun _ _ _ => rfl) ?_ ?_
  · rintro ρ w' he ⟨h5, -⟩
    have e5 : ρ 5 = .pointer (some ⟨pa, 0, none⟩) := h5
    simp [execOp, evR, e5, go_sem]
  refine tok_val rfl (.string ⟨nm.toArray⟩) (fun _ _ _ => rfl) ?_ ?_
  · rintro ρ w' he ⟨h24, -⟩
    have e24 : ρ 24 = .pointer (some ⟨pa, 1, none⟩) := h24
    have c := (HBX.out w' he).cell (i := 1) rfl
    simp [execOp, evR, e24, c, go_sem]
  refine tok_call rfl rfl Try.func48 (by kernel_rfl) (fun v _ => v = .int .i64 ((dMake d nm).2 : Int)) (fun _ _ _ h _ => h) (fun _ _ _ => rfl) ?_ ?_
  · rintro ρ w' he ht ⟨h23, h25, -⟩
    have e23 : ρ 23 = .pointer (some ⟨br, 0, none⟩) := h23
    have e25 : ρ 25 = .string ⟨nm.toArray⟩ := h25
    simp only [evR, List.map_toArray, List.map_cons, List.map_nil, e23, e25]
    have hp : Pair z bd br FF (dMake d nm).1 d w' := ht
    refine (Pair.r (x := dMake d nm) hp (fun k hk => HFN.out k (Nat.le_trans he.size hk)) (fun s hm hsub => rmake_any hm HOK.out HSM.out (Nat.le_trans HZ3.out he.size) nm HL.out)).mono ?_
    rintro e w'' ⟨rfl, hk, hp'⟩
    exact ⟨_, rfl, hk, rfl, hp'⟩
  refine tok_val rfl (.int .i64 ((dMake d nm).2 : Int)) (fun _ _ _ => rfl) ?_ ?_
  · rintro ρ w' he ⟨h22, -⟩
    have e22 : ρ 22 = .int .i64 ((dMake d nm).2 : Int) := h22
    simp [execOp, evR, e22, go_sem]
  refine tok_val rfl (.int .i64 ((dMake d nm).2 : Int)) (fun _ _ _ => rfl) ?_ ?_
  · rintro ρ w' he ⟨h26, -⟩
    have e26 : ρ 26 = .int .i64 ((dMake d nm).2 : Int) := h26
    simp [execOp, evR, e26, go_sem]
  refine tok_nil ?_
  rintro ρ w' hle htk ⟨f9, f8, f26, f25, f24, f23, f22, f21, f20, f19, -⟩ -
  replace f19 : ρ 19 = .pointer (some ⟨bd, 0, none⟩) := f19
  replace f20 : ρ 20 = .pointer (some ⟨pa, 1, none⟩) := f20
  replace f21 : ρ 21 = .string ⟨nm.toArray⟩ := f21
  replace f22 : ρ 22 = .int .i64 ((dMake d nm).2 : Int) := f22
  replace f23 : ρ 23 = .pointer (some ⟨br, 0, none⟩) := f23
  replace f24 : ρ 24 = .pointer (some ⟨pa, 1, none⟩) := f24
  replace f25 : ρ 25 = .string ⟨nm.toArray⟩ := f25
  replace f26 : ρ 26 = .int .i64 ((dMake d nm).2 : Int) := f26
  replace f8 : ρ 8 = .int .i64 ((dMake d nm).2 : Int) := f8
  replace f9 : ρ 9 = .int .i64 ((dMake d nm).2 : Int) := f9
  simp only [puts, Act.put, List.setIfInBounds_toArray, List.set_cons_zero, List.set_cons_succ]
  rw [f8, f9]
  replace htk : Pair z bd br FF (dMake d nm).1 (dMake d nm).1 w' := htk
  clear f19 f20 f21 f22 f23 f24 f25 f26 f8 f9
  obtain ⟨E, hE⟩ : ∃ E : Int, E = ((dMake d nm).2 : Int) := ⟨_, rfl⟩
  rw [← hE]
  clear hE
  have HOWN := Lib.hid (HOW.out.kb hle HOWF.out)
  have HBXN := Lib.hid (HBX.out _ hle)
  have HDT := Lib.hid (HDB3.out.kbp hle HDF.out)
  have HTK := Lib.hid htk
  have HEND := Lib.hid (HFK.out _ hle)
  have HWS := Lib.hid (show W.heap.size ≤ w'.heap.size from Nat.le_trans HX3.out.size hle.size)
  clear hle htk HOW HBX
  go_wp2_with fail
  go_loopw [10, 106] (fun _ iv wr => ∃ (k : Nat) (cur : List UInt8), k ≤ la.length ∧ iv = .int .i64 k ∧ cur.length = la.length ∧ (∀ j, k ≤ j → cur[j]? = la[j]?) ∧ OwB wr (W.heap.size + 1) (.slice Ao la.length co) cur ∧ Kb (fun b => (Value.slice Ao la.length co).ownBlock = some b) w' wr) (fun _ iv _ => la.length - (intOf iv).toNat)
  case atStart => exact ⟨0, la, Nat.zero_le _, rfl, rfl, fun _ _ => rfl, HOWN.out, Kb.refl _ _⟩
  case round =>
    obtain ⟨k, cur, hk, rfl, hcl, hsame, how, hkb⟩ := hrel
    have HKB := Lib.hid hkb
    have HSA := Lib.hid hsame
    have HHW := Lib.hid how
    by_cases hlt : k < la.length
    · obtain ⟨g, co', hform, -⟩ := OwB.form_ how hcl (by omega)
      injection hform with e1 e2 e3
      subst e1
      clear e2 e3 co'
      obtain ⟨cc, tt⟩ := how.cell k (by omega)
      obtain ⟨x, hx⟩ : ∃ x, la[k]? = some x := ⟨_, List.getElem?_eq_getElem hlt⟩
      have hcx : cur.getD k 0 = x := by rw [List.getD_eq_getElem?_getD, hsame k (Nat.le_refl _), hx]; rfl
      rw [hcx] at cc
      obtain ⟨y, hy⟩ := xor_u8 (x.toNat : Int) 255
      have hbx1 : Blk wr pa [.int .i64 0, .string ⟨nm.toArray⟩, .slice Ad la.length cd, .int .i64 an, .int .i64 ak] := by
        obtain ⟨Tt, hb⟩ := HBXN.out
        exact ⟨Tt, (hkb.block pa (Array.getElem?_eq_some_iff.1 hb).1 (fun e => by
          have h1 := HOWN.out.lt2 pa e
          have h2 := HPA.out
          omega)).trans hb⟩
      have hd1 : Bs wr (.slice Ad la.length cd) la := HDT.out.kbp hkb (fun j hj hp0 e => by
        have h1 := HOWN.out.lt2 j e
        have h2 := HDW.out j hj hp0
        have h3 := HPA.out
        omega)
      obtain ⟨A', c', hdv, j1, j2, j3, j4⟩ := hd1.open_
      obtain ⟨gd, od, hA', hgd, hcd⟩ := j4 (by omega)
      injection hdv with hdv1 hdv2 hdv3
      clear hdv2 hdv3
      rw [← hdv1] at hA'
      clear hdv1
      subst hA'
      have dc := hcd k x hx
      have hbx2 := hbx1.cell (i := 2) rfl
      have HSET := Lib.hid (how.set_ k y)
      have HK2 := Lib.hid (hkb.trans (Kb.set (fun b => (Value.slice (some ⟨g, 0, none⟩) la.length co).ownBlock = some b) wr g k (.int .u8 (y.toNat : Int)) rfl) (fun _ h => .inl h))
      clear hkb hsame how hd1 hcd j4 j3 hx hcx hbx1
      go_wp2_with fail
      refine wp_region_turns 0 [(0, 0, false), (0, 0, false), (0, 0, false), (0, 0, false), (0, 0, false), (0, 0, false), (0, 0, false), (0, 0, false), (0, 0, false), (0, 0, false)] (fun w0 c => w0) (by kernel_rfl) (by kernel_rfl) (by kernel_rfl) (fun _ => rfl) ?_
      intro w0 ws hext hsz hws
      have q0 : ws 0 = w0 := hws 0
      clear hws
      have hx24 := hext
      have c1w0 : w0.cell? ⟨g, k, none⟩ = some (.int .u8 (x.toNat : Int)) := (hext.cell (p := ⟨g, k, none⟩) (HHW.out.lt3 g rfl)).trans cc
      have c2w0 : w0.cell? ⟨pa, 2, none⟩ = some (.slice (some ⟨gd, od, none⟩) la.length cd) := (hext.cell (p := ⟨pa, 2, none⟩) (Nat.lt_of_lt_of_le (HBXN.out.lt) HKB.out.size)).trans hbx2
      have c3w0 : w0.cell? ⟨gd, od + k, none⟩ = some (.int .u8 (x.toNat : Int)) := (hext.cell (p := ⟨gd, od + k, none⟩) hgd).trans dc
      refine detT_pure rfl (.slice (some ⟨g, 0, none⟩) la.length co) (fun _ _ => rfl) ?_ ?_
      · rintro ρ ⟨h7, -⟩ w'
        have e7 : ρ 7 = .slice (some ⟨g, 0, none⟩) la.length co := h7
        simp [execOp, evR, e7, go_sem]
      refine detT_pure rfl (.int .i64 (k : Int)) (fun _ _ => rfl) ?_ ?_
      · rintro ρ ⟨h10, -⟩ w'
        have e10 : ρ 10 = .int .i64 (k : Int) := h10
        simp [execOp, evR, e10, go_sem]
      refine detT_pure rfl (.pointer (some ⟨g, k, none⟩)) (fun _ _ => rfl) ?_ ?_
      · rintro ρ ⟨h109, h110, -⟩ w'
        have e109 : ρ 109 = .slice (some ⟨g, 0, none⟩) la.length co := h109
        have e110 : ρ 110 = .int .i64 (k : Int) := h110
        exact index_u8 rfl e109 e110 (by omega)
      refine detT_read rfl (.int .u8 (x.toNat : Int)) (fun _ _ => rfl) ?_ ?_
      · rintro ρ ⟨h111, -⟩ c hc1 hc2
        have e111 : ρ 111 = .pointer (some ⟨g, k, none⟩) := h111
        have hc : c = 0 := by have h1 : 0 ≤ c := hc1; have h2 : c ≤ 0 := hc2; omega
        rcases hc with rfl
        · rw [q0]
          simp [execOp, evR, e111, c1w0, go_sem]
      refine detT_pure rfl (.pointer (some ⟨pa, 2, none⟩)) (fun _ _ => rfl) ?_ ?_
      · rintro ρ ⟨h5, -⟩ w'
        have e5 : ρ 5 = .pointer (some ⟨pa, 0, none⟩) := h5
        simp [execOp, evR, e5, go_sem]
      refine detT_read rfl (.slice (some ⟨gd, od, none⟩) la.length cd) (fun _ _ => rfl) ?_ ?_
      · rintro ρ ⟨h113, -⟩ c hc1 hc2
        have e113 : ρ 113 = .pointer (some ⟨pa, 2, none⟩) := h113
        have hc : c = 0 := by have h1 : 0 ≤ c := hc1; have h2 : c ≤ 0 := hc2; omega
        rcases hc with rfl
        · rw [q0]
          simp [execOp, evR, e113, c2w0, go_sem]
      refine detT_pure rfl (.int .i64 (k : Int)) (fun _ _ => rfl) ?_ ?_
      · rintro ρ ⟨h10, -⟩ w'
        have e10 : ρ 10 = .int .i64 (k : Int) := h10
        simp [execOp, evR, e10, go_sem]
      refine detT_pure rfl (.pointer (some ⟨gd, od + k, none⟩)) (fun _ _ => rfl) ?_ ?_
      · rintro ρ ⟨h114, h115, -⟩ w'
        have e114 : ρ 114 = .slice (some ⟨gd, od, none⟩) la.length cd := h114
        have e115 : ρ 115 = .int .i64 (k : Int) := h115
        exact index_u8o rfl e114 e115 (by omega)
      refine detT_read rfl (.int .u8 (x.toNat : Int)) (fun _ _ => rfl) ?_ ?_
      · rintro ρ ⟨h116, -⟩ c hc1 hc2
        have e116 : ρ 116 = .pointer (some ⟨gd, od + k, none⟩) := h116
        have hc : c = 0 := by have h1 : 0 ≤ c := hc1; have h2 : c ≤ 0 := hc2; omega
        rcases hc with rfl
        · rw [q0]
          simp [execOp, evR, e116, c3w0, go_sem]
      refine detT_pure rfl (.bool false) (fun _ _ => rfl) ?_ ?_
      · rintro ρ ⟨h112, h117, -⟩ w'
        have e112 : ρ 112 = .int .u8 (x.toNat : Int) := h112
        have e117 : ρ 117 = .int .u8 (x.toNat : Int) := h117
        simp [execOp, evR, e112, e117, go_sem]
      simp only [DetT, applyV, Act.put, List.setIfInBounds_toArray, List.set_cons_zero, List.set_cons_succ]
      rw [q0]
      have how0 := HHW.out.ext hext
      have tt1 := (how0.cell k (by omega)).2
      replace HSET := Lib.hid (how0.set_ k y)
      replace HK2 := Lib.hid ((HKB.out.trans (Kb.of_ext (fp := fun b => (Value.slice (some ⟨g, 0, none⟩) la.length co).ownBlock = some b) hext) (fun _ h => .inl h)).trans (Kb.set (fun b => (Value.slice (some ⟨g, 0, none⟩) la.length co).ownBlock = some b) w0 g k (.int .u8 (y.toNat : Int)) rfl) (fun _ h => .inl h))
      clear how0 tt cc
      go_wp2_with fail
      go_roundw
      case rel =>
        refine ⟨k + 1, cur.set k y, by omega, by simp, by simpa using hcl, fun j hj => ?_, HSET.out, HK2.out⟩
        rw [List.getElem?_set_ne (by omega)]
        exact HSA.out j (by omega)
      case measure => simp [intOf]; omega
    · have hke : k = la.length := by omega
      clear hkb hsame how
      go_wp2_with fail
      go_ret
      refine ⟨by simp, HEND.out.trans HKB.out (fun b hb => .inr (by have := HOWN.out.lt2 b hb; omega)), FF, HTK.out.kb HKB.out (fun j hj e => HOWF.out j e hj), HFS.out⟩

theorem do_1 {z bd br c : Nat} {F : Nat → Prop} {W : World} {d : Dk} (h : Pair z bd br F d d W) (hok : d.Ok) (hsm : d.SmallC c) (hc : c ≤ 1000000000) (hz : z ≤ W.heap.size) (kd : Int) (nm la : List UInt8) (an ak : Int) (hkd : kd = 1) (hl : nm.length ≤ maxLen) (hdl : la.length ≤ 20000) {v : Value} (hv : Bs W v la) (hvF : ∀ j, v.ownBlock = some j → 0 < la.length → j < W.heap.size ∧ ¬ F j) :
    Calls Try.prog 30 #[.pointer (some ⟨bd, 0, none⟩), .pointer (some ⟨br, 0, none⟩), .agg #[.int .i64 1, strV nm, v, .int .i64 an, .int .i64 ak]] W fun e w' => e = .returned (.bool true) ∧ Kb F W w' ∧ ∃ F', Pair z bd br F' (dAppend d nm la).1 (dAppend d nm la).1 w' ∧ ∀ k, F' k → F k ∨ W.heap.size ≤ k := by
  obtain ⟨Ad, cd, rfl, i1, i2, -, -⟩ := hv.open_
  subst hkd
  have HDB := Lib.hid hv
  have HOK := Lib.hid hok
  have HSM := Lib.hid (hsm.small hc)
  have HL := Lib.hid hl
  have HH := Lib.hid (h.mono (F' := fun k => F k ∧ k < W.heap.size) (fun k hk hlt _ => ⟨hk, hlt⟩))
  have HVF := Lib.hid hvF
  have HZ := Lib.hid hz
  unfold strV
  clear h hok hsm hvF hv hz
  go_enter Try.func30, Try.ntmps30
  go_wp2_with (at_builtin; refine wpList_append_bs _ rfl (.tmp 11) (.tmp 13) rfl (empty2 W (.cells #[.int .i64 1, .string ⟨nm.toArray⟩, .slice Ad la.length cd, .int .i64 an, .int .i64 ak] 44)) (HDB.out.ext ((ext_alloc _ _).trans (ext_alloc _ _))) rfl rfl (by simp; omega) (by simp) ?_; intro v1 W3 hown1 hg1 hat1; obtain ⟨Ao, co, rfl, hx, hb, ho⟩ := do_pre _ hown1 hg1; have HX3 := Lib.hid hx; have HBX0 := Lib.hid hb; have HOW := Lib.hid ho; have hkc := hb.cell (i := 0) rfl; clear hx hb ho hown1 hg1 hat1)
  obtain ⟨pa, hpa⟩ : ∃ p, p = W.heap.size := ⟨_, rfl⟩
  obtain ⟨FF, hFF⟩ : ∃ FF : Nat → Prop, FF = fun k => (F k ∧ k < W.heap.size) ∨ W3.heap.size ≤ k := ⟨_, rfl⟩
  have hsz3 : W.heap.size + 1 ≤ W3.heap.size := by have := HBX0.out.lt; omega
  have HP3 := Lib.hid (show Pair z bd br FF d d W3 by rw [hFF]; exact (HH.out.ext HX3.out).mono (fun k hk _ _ => .inl hk))
  have HFN := Lib.hid (show ∀ k, W3.heap.size ≤ k → FF k by rw [hFF]; exact fun k hk => .inr hk)
  have HFS := Lib.hid (show ∀ k, FF k → F k ∨ W.heap.size ≤ k by rw [hFF]; exact fun k hk => hk.elim (fun h => .inl h.1) (fun h => .inr (by omega)))
  have HFK := Lib.hid (show ∀ w, Kb FF W3 w → Kb F W w by
    rw [hFF]
    intro w hk
    refine (Kb.of_ext (fp := F) HX3.out).trans hk (fun b hb => ?_)
    rcases hb with hb | hb
    · exact .inl hb.1
    · exact .inr (by omega))
  have HBX := Lib.hid (show ∀ w, Kb FF W3 w → Blk w pa [.int .i64 1, .string ⟨nm.toArray⟩, .slice Ad la.length cd, .int .i64 an, .int .i64 ak] by
    rw [hFF, hpa]
    intro w hk
    obtain ⟨Tt, hb⟩ := HBX0.out
    exact ⟨Tt, (hk.block _ (Array.getElem?_eq_some_iff.1 hb).1 (fun hd => by
      rcases hd with hd | hd
      · omega
      · omega)).trans hb⟩)
  have HOWF := Lib.hid (show ∀ j, (Value.slice Ao la.length co).ownBlock = some j → ¬ FF j by
    rw [hFF]
    intro j hj hd
    have h1 := HOW.out.lt2 j hj
    have h2 := HOW.out.lt3 j hj
    rcases hd with hd | hd
    · omega
    · omega)
  have HDF := Lib.hid (show ∀ j, (Value.slice Ad la.length cd).ownBlock = some j → 0 < la.length → ¬ FF j by
    rw [hFF]
    intro j hj hp0 hd
    have h1 := HVF.out j hj hp0
    rcases hd with hd | hd
    · exact h1.2 hd.1
    · omega)
  have HDW := Lib.hid (show ∀ j, (Value.slice Ad la.length cd).ownBlock = some j → 0 < la.length → j < pa by rw [hpa]; exact fun j hj h0 => (HVF.out j hj h0).1)
  have HDB3 := Lib.hid (HDB.out.ext HX3.out)
  have HZ3 := Lib.hid (Nat.le_trans HZ.out (show W.heap.size ≤ W3.heap.size by omega))
  have HPA := Lib.hid hpa
  rw [← hpa]
  clear hpa hFF hkc hsz3 HH HVF HBX0 HDB
  refine wp_region_tok [false, false, false, false, true, false, false, false, false, false, true, false, false] (Kb FF) (fun c w => if c = 0 then Pair z bd br FF d d w else if c = 1 then Pair z bd br FF (dAppend d nm la).1 d w else Pair z bd br FF (dAppend d nm la).1 (dAppend d nm la).1 w) 2 (by kernel_rfl) (by kernel_rfl) (by kernel_rfl) (by kernel_rfl) (preKb FF) (Kb.of_ext (ext_drew W3)) (HP3.out.ext (ext_drew W3)) ?_
  refine tok_val rfl (.pointer (some ⟨bd, 0, none⟩)) (fun _ _ _ => rfl) ?_ ?_
  · rintro ρ w' he ⟨h0, -⟩
    have e0 : ρ 0 = .pointer (some ⟨bd, 0, none⟩) := h0
    simp [execOp, evR, e0, go_sem]
  refine tok_val rfl (.pointer (some ⟨pa, 1, none⟩)) (fun _ _ _ => rfl) ?_ ?_
  · rintro ρ w' he ⟨h5, -⟩
    have e5 : ρ 5 = .pointer (some ⟨pa, 0, none⟩) := h5
    simp [execOp, evR, e5, go_sem]
  refine tok_val rfl (.string ⟨nm.toArray⟩) (fun _ _ _ => rfl) ?_ ?_
  · rintro ρ w' he ⟨h30, -⟩
    have e30 : ρ 30 = .pointer (some ⟨pa, 1, none⟩) := h30
    have c := (HBX.out w' he).cell (i := 1) rfl
    simp [execOp, evR, e30, c, go_sem]
  refine tok_val rfl (.slice Ao la.length co) (fun _ _ _ => rfl) ?_ ?_
  · rintro ρ w' he ⟨h7, -⟩
    have e7 : ρ 7 = .slice Ao la.length co := h7
    simp [execOp, evR, e7, go_sem]
  refine tok_call rfl rfl Try.func17 (by kernel_rfl) (fun v _ => v = .int .i64 ((dAppend d nm la).2 : Int)) (fun _ _ _ h _ => h) (fun _ _ _ => rfl) ?_ ?_
  · rintro ρ w' he ht ⟨h29, h31, h32, -⟩
    have e29 : ρ 29 = .pointer (some ⟨bd, 0, none⟩) := h29
    have e31 : ρ 31 = .string ⟨nm.toArray⟩ := h31
    have e32 : ρ 32 = .slice Ao la.length co := h32
    simp only [evR, List.map_toArray, List.map_cons, List.map_nil, e29, e31, e32]
    have hp : Pair z bd br FF d d w' := ht
    refine (Pair.d (x := dAppend d nm la) hp (fun k hk => HFN.out k (Nat.le_trans he.size hk)) (fun bm pl ms hm => append_any hm HOK.out HSM.out (Nat.le_trans HZ3.out he.size) nm HL.out (HOW.out.kb he HOWF.out).bs)).mono ?_
    rintro e w'' ⟨rfl, hk, hp'⟩
    exact ⟨_, rfl, hk, rfl, hp'⟩
  refine tok_val rfl (.pointer (some ⟨br, 0, none⟩)) (fun _ _ _ => rfl) ?_ ?_
  · rintro ρ w' he ⟨h1, -⟩
    have e1 : ρ 1 = .pointer (some ⟨br, 0, none⟩) := h1
    simp [execOp, evR, e1, go_sem]
  refine tok_val rfl (.pointer (some ⟨pa, 1, none⟩)) (fun _ _ _ => rfl) ?_ ?_
  · rintro ρ w' he ⟨h5, -⟩
    have e5 : ρ 5 = .pointer (some ⟨pa, 0, none⟩) := h5
    simp [execOp, evR, e5, go_sem]
  refine tok_val rfl (.string ⟨nm.toArray⟩) (fun _ _ _ => rfl) ?_ ?_
  · rintro ρ w' he ⟨h35, -⟩
    have e35 : ρ 35 = .pointer (some ⟨pa, 1, none⟩) := h35
    have c := (HBX.out w' he).cell (i := 1) rfl
    simp [execOp, evR, e35, c, go_sem]
  refine tok_val rfl (.pointer (some ⟨pa, 2, none⟩)) (fun _ _ _ => rfl) ?_ ?_
  · rintro ρ w' he ⟨h5, -⟩
    have e5 : ρ 5 = .pointer (some ⟨pa, 0, none⟩) := h5
    simp [execOp, evR, e5, go_sem]
  refine tok_val rfl (.slice Ad la.length cd) (fun _ _ _ => rfl) ?_ ?_
  · rintro ρ w' he ⟨h37, -⟩
    have e37 : ρ 37 = .pointer (some ⟨pa, 2, none⟩) := h37
    have c := (HBX.out w' he).cell (i := 2) rfl
    simp [execOp, evR, e37, c, go_sem]
  refine tok_call rfl rfl Try.func49 (by kernel_rfl) (fun v _ => v = .int .i64 ((dAppend d nm la).2 : Int)) (fun _ _ _ h _ => h) (fun _ _ _ => rfl) ?_ ?_
  · rintro ρ w' he ht ⟨h34, h36, h38, -⟩
    have e34 : ρ 34 = .pointer (some ⟨br, 0, none⟩) := h34
    have e36 : ρ 36 = .string ⟨nm.toArray⟩ := h36
    have e38 : ρ 38 = .slice Ad la.length cd := h38
    simp only [evR, List.map_toArray, List.map_cons, List.map_nil, e34, e36, e38]
    have hp : Pair z bd br FF (dAppend d nm la).1 d w' := ht
    refine (Pair.r (x := dAppend d nm la) hp (fun k hk => HFN.out k (Nat.le_trans he.size hk)) (fun s hm hsub => rappend_any hm HOK.out HSM.out (Nat.le_trans HZ3.out he.size) nm (HDB3.out.kbp he HDF.out) (fun j hj h0 hd => HDF.out j hj h0 (hsub j hd)) (by omega))).mono ?_
    rintro e w'' ⟨rfl, hk, hp'⟩
    exact ⟨_, rfl, hk, rfl, hp'⟩
  refine tok_val rfl (.int .i64 ((dAppend d nm la).2 : Int)) (fun _ _ _ => rfl) ?_ ?_
  · rintro ρ w' he ⟨h33, -⟩
    have e33 : ρ 33 = .int .i64 ((dAppend d nm la).2 : Int) := h33
    simp [execOp, evR, e33, go_sem]
  refine tok_val rfl (.int .i64 ((dAppend d nm la).2 : Int)) (fun _ _ _ => rfl) ?_ ?_
  · rintro ρ w' he ⟨h39, -⟩
    have e39 : ρ 39 = .int .i64 ((dAppend d nm la).2 : Int) := h39
    simp [execOp, evR, e39, go_sem]
  refine tok_nil ?_
  rintro ρ w' hle htk ⟨f9, f8, f39, f38, f37, f36, f35, f34, f33, f32, f31, f30, f29, -⟩ -
  replace f29 : ρ 29 = .pointer (some ⟨bd, 0, none⟩) := f29
  replace f30 : ρ 30 = .pointer (some ⟨pa, 1, none⟩) := f30
  replace f31 : ρ 31 = .string ⟨nm.toArray⟩ := f31
  replace f32 : ρ 32 = .slice Ao la.length co := f32
  replace f33 : ρ 33 = .int .i64 ((dAppend d nm la).2 : Int) := f33
  replace f34 : ρ 34 = .pointer (some ⟨br, 0, none⟩) := f34
  replace f35 : ρ 35 = .pointer (some ⟨pa, 1, none⟩) := f35
  replace f36 : ρ 36 = .string ⟨nm.toArray⟩ := f36
  replace f37 : ρ 37 = .pointer (some ⟨pa, 2, none⟩) := f37
  replace f38 : ρ 38 = .slice Ad la.length cd := f38
  replace f39 : ρ 39 = .int .i64 ((dAppend d nm la).2 : Int) := f39
  replace f8 : ρ 8 = .int .i64 ((dAppend d nm la).2 : Int) := f8
  replace f9 : ρ 9 = .int .i64 ((dAppend d nm la).2 : Int) := f9
  simp only [puts, Act.put, List.setIfInBounds_toArray, List.set_cons_zero, List.set_cons_succ]
  rw [f8, f9]
  replace htk : Pair z bd br FF (dAppend d nm la).1 (dAppend d nm la).1 w' := htk
  clear f29 f30 f31 f32 f33 f34 f35 f36 f37 f38 f39 f8 f9
  obtain ⟨E, hE⟩ : ∃ E : Int, E = ((dAppend d nm la).2 : Int) := ⟨_, rfl⟩
  rw [← hE]
  clear hE
  have HOWN := Lib.hid (HOW.out.kb hle HOWF.out)
  have HBXN := Lib.hid (HBX.out _ hle)
  have HDT := Lib.hid (HDB3.out.kbp hle HDF.out)
  have HTK := Lib.hid htk
  have HEND := Lib.hid (HFK.out _ hle)
  have HWS := Lib.hid (show W.heap.size ≤ w'.heap.size from Nat.le_trans HX3.out.size hle.size)
  clear hle htk HOW HBX
  go_wp2_with fail
  go_loopw [10, 106] (fun _ iv wr => ∃ (k : Nat) (cur : List UInt8), k ≤ la.length ∧ iv = .int .i64 k ∧ cur.length = la.length ∧ (∀ j, k ≤ j → cur[j]? = la[j]?) ∧ OwB wr (W.heap.size + 1) (.slice Ao la.length co) cur ∧ Kb (fun b => (Value.slice Ao la.length co).ownBlock = some b) w' wr) (fun _ iv _ => la.length - (intOf iv).toNat)
  case atStart => exact ⟨0, la, Nat.zero_le _, rfl, rfl, fun _ _ => rfl, HOWN.out, Kb.refl _ _⟩
  case round =>
    obtain ⟨k, cur, hk, rfl, hcl, hsame, how, hkb⟩ := hrel
    have HKB := Lib.hid hkb
    have HSA := Lib.hid hsame
    have HHW := Lib.hid how
    by_cases hlt : k < la.length
    · obtain ⟨g, co', hform, -⟩ := OwB.form_ how hcl (by omega)
      injection hform with e1 e2 e3
      subst e1
      clear e2 e3 co'
      obtain ⟨cc, tt⟩ := how.cell k (by omega)
      obtain ⟨x, hx⟩ : ∃ x, la[k]? = some x := ⟨_, List.getElem?_eq_getElem hlt⟩
      have hcx : cur.getD k 0 = x := by rw [List.getD_eq_getElem?_getD, hsame k (Nat.le_refl _), hx]; rfl
      rw [hcx] at cc
      obtain ⟨y, hy⟩ := xor_u8 (x.toNat : Int) 255
      have hbx1 : Blk wr pa [.int .i64 1, .string ⟨nm.toArray⟩, .slice Ad la.length cd, .int .i64 an, .int .i64 ak] := by
        obtain ⟨Tt, hb⟩ := HBXN.out
        exact ⟨Tt, (hkb.block pa (Array.getElem?_eq_some_iff.1 hb).1 (fun e => by
          have h1 := HOWN.out.lt2 pa e
          have h2 := HPA.out
          omega)).trans hb⟩
      have hd1 : Bs wr (.slice Ad la.length cd) la := HDT.out.kbp hkb (fun j hj hp0 e => by
        have h1 := HOWN.out.lt2 j e
        have h2 := HDW.out j hj hp0
        have h3 := HPA.out
        omega)
      obtain ⟨A', c', hdv, j1, j2, j3, j4⟩ := hd1.open_
      obtain ⟨gd, od, hA', hgd, hcd⟩ := j4 (by omega)
      injection hdv with hdv1 hdv2 hdv3
      clear hdv2 hdv3
      rw [← hdv1] at hA'
      clear hdv1
      subst hA'
      have dc := hcd k x hx
      have hbx2 := hbx1.cell (i := 2) rfl
      have HSET := Lib.hid (how.set_ k y)
      have HK2 := Lib.hid (hkb.trans (Kb.set (fun b => (Value.slice (some ⟨g, 0, none⟩) la.length co).ownBlock = some b) wr g k (.int .u8 (y.toNat : Int)) rfl) (fun _ h => .inl h))
      clear hkb hsame how hd1 hcd j4 j3 hx hcx hbx1
      go_wp2_with fail
      refine wp_region_turns 0 [(0, 0, false), (0, 0, false), (0, 0, false), (0, 0, false), (0, 0, false), (0, 0, false), (0, 0, false), (0, 0, false), (0, 0, false), (0, 0, false)] (fun w0 c => w0) (by kernel_rfl) (by kernel_rfl) (by kernel_rfl) (fun _ => rfl) ?_
      intro w0 ws hext hsz hws
      have q0 : ws 0 = w0 := hws 0
      clear hws
      have hx24 := hext
      have c1w0 : w0.cell? ⟨g, k, none⟩ = some (.int .u8 (x.toNat : Int)) := (hext.cell (p := ⟨g, k, none⟩) (HHW.out.lt3 g rfl)).trans cc
      have c2w0 : w0.cell? ⟨pa, 2, none⟩ = some (.slice (some ⟨gd, od, none⟩) la.length cd) := (hext.cell (p := ⟨pa, 2, none⟩) (Nat.lt_of_lt_of_le (HBXN.out.lt) HKB.out.size)).trans hbx2
      have c3w0 : w0.cell? ⟨gd, od + k, none⟩ = some (.int .u8 (x.toNat : Int)) := (hext.cell (p := ⟨gd, od + k, none⟩) hgd).trans dc
      refine detT_pure rfl (.slice (some ⟨g, 0, none⟩) la.length co) (fun _ _ => rfl) ?_ ?_
      · rintro ρ ⟨h7, -⟩ w'
        have e7 : ρ 7 = .slice (some ⟨g, 0, none⟩) la.length co := h7
        simp [execOp, evR, e7, go_sem]
      refine detT_pure rfl (.int .i64 (k : Int)) (fun _ _ => rfl) ?_ ?_
      · rintro ρ ⟨h10, -⟩ w'
        have e10 : ρ 10 = .int .i64 (k : Int) := h10
        simp [execOp, evR, e10, go_sem]
      refine detT_pure rfl (.pointer (some ⟨g, k, none⟩)) (fun _ _ => rfl) ?_ ?_
      · rintro ρ ⟨h109, h110, -⟩ w'
        have e109 : ρ 109 = .slice (some ⟨g, 0, none⟩) la.length co := h109
        have e110 : ρ 110 = .int .i64 (k : Int) := h110
        exact index_u8 rfl e109 e110 (by omega)
      refine detT_read rfl (.int .u8 (x.toNat : Int)) (fun _ _ => rfl) ?_ ?_
      · rintro ρ ⟨h111, -⟩ c hc1 hc2
        have e111 : ρ 111 = .pointer (some ⟨g, k, none⟩) := h111
        have hc : c = 0 := by have h1 : 0 ≤ c := hc1; have h2 : c ≤ 0 := hc2; omega
        rcases hc with rfl
        · rw [q0]
          simp [execOp, evR, e111, c1w0, go_sem]
      refine detT_pure rfl (.pointer (some ⟨pa, 2, none⟩)) (fun _ _ => rfl) ?_ ?_
      · rintro ρ ⟨h5, -⟩ w'
        have e5 : ρ 5 = .pointer (some ⟨pa, 0, none⟩) := h5
        simp [execOp, evR, e5, go_sem]
      refine detT_read rfl (.slice (some ⟨gd, od, none⟩) la.length cd) (fun _ _ => rfl) ?_ ?_
      · rintro ρ ⟨h113, -⟩ c hc1 hc2
        have e113 : ρ 113 = .pointer (some ⟨pa, 2, none⟩) := h113
        have hc : c = 0 := by have h1 : 0 ≤ c := hc1; have h2 : c ≤ 0 := hc2; omega
        rcases hc with rfl
        · rw [q0]
          simp [execOp, evR, e113, c2w0, go_sem]
      refine detT_pure rfl (.int .i64 (k : Int)) (fun _ _ => rfl) ?_ ?_
      · rintro ρ ⟨h10, -⟩ w'
        have e10 : ρ 10 = .int .i64 (k : Int) := h10
        simp [execOp, evR, e10, go_sem]
      refine detT_pure rfl (.pointer (some ⟨gd, od + k, none⟩)) (fun _ _ => rfl) ?_ ?_
      · rintro ρ ⟨h114, h115, -⟩ w'
        have e114 : ρ 114 = .slice (some ⟨gd, od, none⟩) la.length cd := h114
        have e115 : ρ 115 = .int .i64 (k : Int) := h115
        exact index_u8o rfl e114 e115 (by omega)
      refine detT_read rfl (.int .u8 (x.toNat : Int)) (fun _ _ => rfl) ?_ ?_
      · rintro ρ ⟨h116, -⟩ c hc1 hc2
        have e116 : ρ 116 = .pointer (some ⟨gd, od + k, none⟩) := h116
        have hc : c = 0 := by have h1 : 0 ≤ c := hc1; have h2 : c ≤ 0 := hc2; omega
        rcases hc with rfl
        · rw [q0]
          simp [execOp, evR, e116, c3w0, go_sem]
      refine detT_pure rfl (.bool false) (fun _ _ => rfl) ?_ ?_
      · rintro ρ ⟨h112, h117, -⟩ w'
        have e112 : ρ 112 = .int .u8 (x.toNat : Int) := h112
        have e117 : ρ 117 = .int .u8 (x.toNat : Int) := h117
        simp [execOp, evR, e112, e117, go_sem]
      simp only [DetT, applyV, Act.put, List.setIfInBounds_toArray, List.set_cons_zero, List.set_cons_succ]
      rw [q0]
      have how0 := HHW.out.ext hext
      have tt1 := (how0.cell k (by omega)).2
      replace HSET := Lib.hid (how0.set_ k y)
      replace HK2 := Lib.hid ((HKB.out.trans (Kb.of_ext (fp := fun b => (Value.slice (some ⟨g, 0, none⟩) la.length co).ownBlock = some b) hext) (fun _ h => .inl h)).trans (Kb.set (fun b => (Value.slice (some ⟨g, 0, none⟩) la.length co).ownBlock = some b) w0 g k (.int .u8 (y.toNat : Int)) rfl) (fun _ h => .inl h))
      clear how0 tt cc
      go_wp2_with fail
      go_roundw
      case rel =>
        refine ⟨k + 1, cur.set k y, by omega, by simp, by simpa using hcl, fun j hj => ?_, HSET.out, HK2.out⟩
        rw [List.getElem?_set_ne (by omega)]
        exact HSA.out j (by omega)
      case measure => simp [intOf]; omega
    · have hke : k = la.length := by omega
      clear hkb hsame how
      go_wp2_with fail
      go_ret
      refine ⟨by simp, HEND.out.trans HKB.out (fun b hb => .inr (by have := HOWN.out.lt2 b hb; omega)), FF, HTK.out.kb HKB.out (fun j hj e => HOWF.out j e hj), HFS.out⟩

theorem do_2 {z bd br c : Nat} {F : Nat → Prop} {W : World} {d : Dk} (h : Pair z bd br F d d W) (hok : d.Ok) (hsm : d.SmallC c) (hc : c ≤ 1000000000) (hz : z ≤ W.heap.size) (kd : Int) (nm la : List UInt8) (an ak : Int) (hkd : kd = 2) (hl : nm.length ≤ maxLen) (hdl : la.length ≤ 20000) {v : Value} (hv : Bs W v la) (hvF : ∀ j, v.ownBlock = some j → 0 < la.length → j < W.heap.size ∧ ¬ F j) :
    Calls Try.prog 30 #[.pointer (some ⟨bd, 0, none⟩), .pointer (some ⟨br, 0, none⟩), .agg #[.int .i64 2, strV nm, v, .int .i64 an, .int .i64 ak]] W fun e w' => e = .returned (.bool true) ∧ Kb F W w' ∧ ∃ F', Pair z bd br F' (dSync d nm).1 (dSync d nm).1 w' ∧ ∀ k, F' k → F k ∨ W.heap.size ≤ k := by
  obtain ⟨Ad, cd, rfl, i1, i2, -, -⟩ := hv.open_
  subst hkd
  have HDB := Lib.hid hv
  have HOK := Lib.hid hok
  have HSM := Lib.hid (hsm.small hc)
  have HL := Lib.hid hl
  have HH := Lib.hid (h.mono (F' := fun k => F k ∧ k < W.heap.size) (fun k hk hlt _ => ⟨hk, hlt⟩))
  have HVF := Lib.hid hvF
  have HZ := Lib.hid hz
  unfold strV
  clear h hok hsm hvF hv hz
  go_enter Try.func30, Try.ntmps30
  go_wp2_with (at_builtin; refine wpList_append_bs _ rfl (.tmp 11) (.tmp 13) rfl (empty2 W (.cells #[.int .i64 2, .string ⟨nm.toArray⟩, .slice Ad la.length cd, .int .i64 an, .int .i64 ak] 44)) (HDB.out.ext ((ext_alloc _ _).trans (ext_alloc _ _))) rfl rfl (by simp; omega) (by simp) ?_; intro v1 W3 hown1 hg1 hat1; obtain ⟨Ao, co, rfl, hx, hb, ho⟩ := do_pre _ hown1 hg1; have HX3 := Lib.hid hx; have HBX0 := Lib.hid hb; have HOW := Lib.hid ho; have hkc := hb.cell (i := 0) rfl; clear hx hb ho hown1 hg1 hat1)
  obtain ⟨pa, hpa⟩ : ∃ p, p = W.heap.size := ⟨_, rfl⟩
  obtain ⟨FF, hFF⟩ : ∃ FF : Nat → Prop, FF = fun k => (F k ∧ k < W.heap.size) ∨ W3.heap.size ≤ k := ⟨_, rfl⟩
  have hsz3 : W.heap.size + 1 ≤ W3.heap.size := by have := HBX0.out.lt; omega
  have HP3 := Lib.hid (show Pair z bd br FF d d W3 by rw [hFF]; exact (HH.out.ext HX3.out).mono (fun k hk _ _ => .inl hk))
  have HFN := Lib.hid (show ∀ k, W3.heap.size ≤ k → FF k by rw [hFF]; exact fun k hk => .inr hk)
  have HFS := Lib.hid (show ∀ k, FF k → F k ∨ W.heap.size ≤ k by rw [hFF]; exact fun k hk => hk.elim (fun h => .inl h.1) (fun h => .inr (by omega)))
  have HFK := Lib.hid (show ∀ w, Kb FF W3 w → Kb F W w by
    rw [hFF]
    intro w hk
    refine (Kb.of_ext (fp := F) HX3.out).trans hk (fun b hb => ?_)
    rcases hb with hb | hb
    · exact .inl hb.1
    · exact .inr (by omega))
  have HBX := Lib.hid (show ∀ w, Kb FF W3 w → Blk w pa [.int .i64 2, .string ⟨nm.toArray⟩, .slice Ad la.length cd, .int .i64 an, .int .i64 ak] by
    rw [hFF, hpa]
    intro w hk
    obtain ⟨Tt, hb⟩ := HBX0.out
    exact ⟨Tt, (hk.block _ (Array.getElem?_eq_some_iff.1 hb).1 (fun hd => by
      rcases hd with hd | hd
      · omega
      · omega)).trans hb⟩)
  have HOWF := Lib.hid (show ∀ j, (Value.slice Ao la.length co).ownBlock = some j → ¬ FF j by
    rw [hFF]
    intro j hj hd
    have h1 := HOW.out.lt2 j hj
    have h2 := HOW.out.lt3 j hj
    rcases hd with hd | hd
    · omega
    · omega)
  have HDF := Lib.hid (show ∀ j, (Value.slice Ad la.length cd).ownBlock = some j → 0 < la.length → ¬ FF j by
    rw [hFF]
    intro j hj hp0 hd
    have h1 := HVF.out j hj hp0
    rcases hd with hd | hd
    · exact h1.2 hd.1
    · omega)
  have HDW := Lib.hid (show ∀ j, (Value.slice Ad la.length cd).ownBlock = some j → 0 < la.length → j < pa by rw [hpa]; exact fun j hj h0 => (HVF.out j hj h0).1)
  have HDB3 := Lib.hid (HDB.out.ext HX3.out)
  have HZ3 := Lib.hid (Nat.le_trans HZ.out (show W.heap.size ≤ W3.heap.size by omega))
  have HPA := Lib.hid hpa
  rw [← hpa]
  clear hpa hFF hkc hsz3 HH HVF HBX0 HDB
  refine wp_region_tok [false, false, false, true, false, false, false, true, false, false] (Kb FF) (fun c w => if c = 0 then Pair z bd br FF d d w else if c = 1 then Pair z bd br FF (dSync d nm).1 d w else Pair z bd br FF (dSync d nm).1 (dSync d nm).1 w) 2 (by kernel_rfl) (by kernel_rfl) (by kernel_rfl) (by kernel_rfl) (preKb FF) (Kb.of_ext (ext_drew W3)) (HP3.out.ext (ext_drew W3)) ?_
  refine tok_val rfl (.pointer (some ⟨bd, 0, none⟩)) (fun _ _ _ => rfl) ?_ ?_
  · rintro ρ w' he ⟨h0, -⟩
    have e0 : ρ 0 = .pointer (some ⟨bd, 0, none⟩) := h0
    simp [execOp, evR, e0, go_sem]
  refine tok_val rfl (.pointer (some ⟨pa, 1, none⟩)) (fun _ _ _ => rfl) ?_ ?_
  · rintro ρ w' he ⟨h5, -⟩
    have e5 : ρ 5 = .pointer (some ⟨pa, 0, none⟩) := h5
    simp [execOp, evR, e5, go_sem]
  refine tok_val rfl (.string ⟨nm.toArray⟩) (fun _ _ _ => rfl) ?_ ?_
  · rintro ρ w' he ⟨h43, -⟩
    have e43 : ρ 43 = .pointer (some ⟨pa, 1, none⟩) := h43
    have c := (HBX.out w' he).cell (i := 1) rfl
    simp [execOp, evR, e43, c, go_sem]
  refine tok_call rfl rfl Try.func18 (by kernel_rfl) (fun v _ => v = .int .i64 ((dSync d nm).2 : Int)) (fun _ _ _ h _ => h) (fun _ _ _ => rfl) ?_ ?_
  · rintro ρ w' he ht ⟨h42, h44, -⟩
    have e42 : ρ 42 = .pointer (some ⟨bd, 0, none⟩) := h42
    have e44 : ρ 44 = .string ⟨nm.toArray⟩ := h44
    simp only [evR, List.map_toArray, List.map_cons, List.map_nil, e42, e44]
    have hp : Pair z bd br FF d d w' := ht
    refine (Pair.d (x := dSync d nm) hp (fun k hk => HFN.out k (Nat.le_trans he.size hk)) (fun bm pl ms hm => sync_any hm HOK.out HSM.out (Nat.le_trans HZ3.out he.size) nm HL.out)).mono ?_
    rintro e w'' ⟨rfl, hk, hp'⟩
    exact ⟨_, rfl, hk, rfl, hp'⟩
  refine tok_val rfl (.pointer (some ⟨br, 0, none⟩)) (fun _ _ _ => rfl) ?_ ?_
  · rintro ρ w' he ⟨h1, -⟩
    have e1 : ρ 1 = .pointer (some ⟨br, 0, none⟩) := h1
    simp [execOp, evR, e1, go_sem]
  refine tok_val rfl (.pointer (some ⟨pa, 1, none⟩)) (fun _ _ _ => rfl) ?_ ?_
  · rintro ρ w' he ⟨h5, -⟩
    have e5 : ρ 5 = .pointer (some ⟨pa, 0, none⟩) := h5
    simp [execOp, evR, e5, go_sem]
  refine tok_val rfl (.string ⟨nm.toArray⟩) (fun _ _ _ => rfl) ?_ ?_
  · rintro ρ w' he ⟨h47, -⟩
    have e47 : ρ 47 = .pointer (some ⟨pa, 1, none⟩) := h47
    have c := (HBX.out w' he).cell (i := 1) rfl
    simp [execOp, evR, e47, c, go_sem]
  refine tok_call rfl rfl Try.func50 (by kernel_rfl) (fun v _ => v = .int .i64 ((dSync d nm).2 : Int)) (fun _ _ _ h _ => h) (fun _ _ _ => rfl) ?_ ?_
  · rintro ρ w' he ht ⟨h46, h48, -⟩
    have e46 : ρ 46 = .pointer (some ⟨br, 0, none⟩) := h46
    have e48 : ρ 48 = .string ⟨nm.toArray⟩ := h48
    simp only [evR, List.map_toArray, List.map_cons, List.map_nil, e46, e48]
    have hp : Pair z bd br FF (dSync d nm).1 d w' := ht
    refine (Pair.r (x := dSync d nm) hp (fun k hk => HFN.out k (Nat.le_trans he.size hk)) (fun s hm hsub => rsync_any hm HOK.out HSM.out (Nat.le_trans HZ3.out he.size) nm)).mono ?_
    rintro e w'' ⟨rfl, hk, hp'⟩
    exact ⟨_, rfl, hk, rfl, hp'⟩
  refine tok_val rfl (.int .i64 ((dSync d nm).2 : Int)) (fun _ _ _ => rfl) ?_ ?_
  · rintro ρ w' he ⟨h45, -⟩
    have e45 : ρ 45 = .int .i64 ((dSync d nm).2 : Int) := h45
    simp [execOp, evR, e45, go_sem]
  refine tok_val rfl (.int .i64 ((dSync d nm).2 : Int)) (fun _ _ _ => rfl) ?_ ?_
  · rintro ρ w' he ⟨h49, -⟩
    have e49 : ρ 49 = .int .i64 ((dSync d nm).2 : Int) := h49
    simp [execOp, evR, e49, go_sem]
  refine tok_nil ?_
  rintro ρ w' hle htk ⟨f9, f8, f49, f48, f47, f46, f45, f44, f43, f42, -⟩ -
  replace f42 : ρ 42 = .pointer (some ⟨bd, 0, none⟩) := f42
  replace f43 : ρ 43 = .pointer (some ⟨pa, 1, none⟩) := f43
  replace f44 : ρ 44 = .string ⟨nm.toArray⟩ := f44
  replace f45 : ρ 45 = .int .i64 ((dSync d nm).2 : Int) := f45
  replace f46 : ρ 46 = .pointer (some ⟨br, 0, none⟩) := f46
  replace f47 : ρ 47 = .pointer (some ⟨pa, 1, none⟩) := f47
  replace f48 : ρ 48 = .string ⟨nm.toArray⟩ := f48
  replace f49 : ρ 49 = .int .i64 ((dSync d nm).2 : Int) := f49
  replace f8 : ρ 8 = .int .i64 ((dSync d nm).2 : Int) := f8
  replace f9 : ρ 9 = .int .i64 ((dSync d nm).2 : Int) := f9
  simp only [puts, Act.put, List.setIfInBounds_toArray, List.set_cons_zero, List.set_cons_succ]
  rw [f8, f9]
  replace htk : Pair z bd br FF (dSync d nm).1 (dSync d nm).1 w' := htk
  clear f42 f43 f44 f45 f46 f47 f48 f49 f8 f9
  obtain ⟨E, hE⟩ : ∃ E : Int, E = ((dSync d nm).2 : Int) := ⟨_, rfl⟩
  rw [← hE]
  clear hE
  have HOWN := Lib.hid (HOW.out.kb hle HOWF.out)
  have HBXN := Lib.hid (HBX.out _ hle)
  have HDT := Lib.hid (HDB3.out.kbp hle HDF.out)
  have HTK := Lib.hid htk
  have HEND := Lib.hid (HFK.out _ hle)
  have HWS := Lib.hid (show W.heap.size ≤ w'.heap.size from Nat.le_trans HX3.out.size hle.size)
  clear hle htk HOW HBX
  go_wp2_with fail
  go_loopw [10, 106] (fun _ iv wr => ∃ (k : Nat) (cur : List UInt8), k ≤ la.length ∧ iv = .int .i64 k ∧ cur.length = la.length ∧ (∀ j, k ≤ j → cur[j]? = la[j]?) ∧ OwB wr (W.heap.size + 1) (.slice Ao la.length co) cur ∧ Kb (fun b => (Value.slice Ao la.length co).ownBlock = some b) w' wr) (fun _ iv _ => la.length - (intOf iv).toNat)
  case atStart => exact ⟨0, la, Nat.zero_le _, rfl, rfl, fun _ _ => rfl, HOWN.out, Kb.refl _ _⟩
  case round =>
    obtain ⟨k, cur, hk, rfl, hcl, hsame, how, hkb⟩ := hrel
    have HKB := Lib.hid hkb
    have HSA := Lib.hid hsame
    have HHW := Lib.hid how
    by_cases hlt : k < la.length
    · obtain ⟨g, co', hform, -⟩ := OwB.form_ how hcl (by omega)
      injection hform with e1 e2 e3
      subst e1
      clear e2 e3 co'
      obtain ⟨cc, tt⟩ := how.cell k (by omega)
      obtain ⟨x, hx⟩ : ∃ x, la[k]? = some x := ⟨_, List.getElem?_eq_getElem hlt⟩
      have hcx : cur.getD k 0 = x := by rw [List.getD_eq_getElem?_getD, hsame k (Nat.le_refl _), hx]; rfl
      rw [hcx] at cc
      obtain ⟨y, hy⟩ := xor_u8 (x.toNat : Int) 255
      have hbx1 : Blk wr pa [.int .i64 2, .string ⟨nm.toArray⟩, .slice Ad la.length cd, .int .i64 an, .int .i64 ak] := by
        obtain ⟨Tt, hb⟩ := HBXN.out
        exact ⟨Tt, (hkb.block pa (Array.getElem?_eq_some_iff.1 hb).1 (fun e => by
          have h1 := HOWN.out.lt2 pa e
          have h2 := HPA.out
          omega)).trans hb⟩
      have hd1 : Bs wr (.slice Ad la.length cd) la := HDT.out.kbp hkb (fun j hj hp0 e => by
        have h1 := HOWN.out.lt2 j e
        have h2 := HDW.out j hj hp0
        have h3 := HPA.out
        omega)
      obtain ⟨A', c', hdv, j1, j2, j3, j4⟩ := hd1.open_
      obtain ⟨gd, od, hA', hgd, hcd⟩ := j4 (by omega)
      injection hdv with hdv1 hdv2 hdv3
      clear hdv2 hdv3
      rw [← hdv1] at hA'
      clear hdv1
      subst hA'
      have dc := hcd k x hx
      have hbx2 := hbx1.cell (i := 2) rfl
      have HSET := Lib.hid (how.set_ k y)
      have HK2 := Lib.hid (hkb.trans (Kb.set (fun b => (Value.slice (some ⟨g, 0, none⟩) la.length co).ownBlock = some b) wr g k (.int .u8 (y.toNat : Int)) rfl) (fun _ h => .inl h))
      clear hkb hsame how hd1 hcd j4 j3 hx hcx hbx1
      go_wp2_with fail
      refine wp_region_turns 0 [(0, 0, false), (0, 0, false), (0, 0, false), (0, 0, false), (0, 0, false), (0, 0, false), (0, 0, false), (0, 0, false), (0, 0, false), (0, 0, false)] (fun w0 c => w0) (by kernel_rfl) (by kernel_rfl) (by kernel_rfl) (fun _ => rfl) ?_
      intro w0 ws hext hsz hws
      have q0 : ws 0 = w0 := hws 0
      clear hws
      have hx24 := hext
      have c1w0 : w0.cell? ⟨g, k, none⟩ = some (.int .u8 (x.toNat : Int)) := (hext.cell (p := ⟨g, k, none⟩) (HHW.out.lt3 g rfl)).trans cc
      have c2w0 : w0.cell? ⟨pa, 2, none⟩ = some (.slice (some ⟨gd, od, none⟩) la.length cd) := (hext.cell (p := ⟨pa, 2, none⟩) (Nat.lt_of_lt_of_le (HBXN.out.lt) HKB.out.size)).trans hbx2
      have c3w0 : w0.cell? ⟨gd, od + k, none⟩ = some (.int .u8 (x.toNat : Int)) := (hext.cell (p := ⟨gd, od + k, none⟩) hgd).trans dc
      refine detT_pure rfl (.slice (some ⟨g, 0, none⟩) la.length co) (fun _ _ => rfl) ?_ ?_
      · rintro ρ ⟨h7, -⟩ w'
        have e7 : ρ 7 = .slice (some ⟨g, 0, none⟩) la.length co := h7
        simp [execOp, evR, e7, go_sem]
      refine detT_pure rfl (.int .i64 (k : Int)) (fun _ _ => rfl) ?_ ?_
      · rintro ρ ⟨h10, -⟩ w'
        have e10 : ρ 10 = .int .i64 (k : Int) := h10
        simp [execOp, evR, e10, go_sem]
      refine detT_pure rfl (.pointer (some ⟨g, k, none⟩)) (fun _ _ => rfl) ?_ ?_
      · rintro ρ ⟨h109, h110, -⟩ w'
        have e109 : ρ 109 = .slice (some ⟨g, 0, none⟩) la.length co := h109
        have e110 : ρ 110 = .int .i64 (k : Int) := h110
        exact index_u8 rfl e109 e110 (by omega)
      refine detT_read rfl (.int .u8 (x.toNat : Int)) (fun _ _ => rfl) ?_ ?_
      · rintro ρ ⟨h111, -⟩ c hc1 hc2
        have e111 : ρ 111 = .pointer (some ⟨g, k, none⟩) := h111
        have hc : c = 0 := by have h1 : 0 ≤ c := hc1; have h2 : c ≤ 0 := hc2; omega
        rcases hc with rfl
        · rw [q0]
          simp [execOp, evR, e111, c1w0, go_sem]
      refine detT_pure rfl (.pointer (some ⟨pa, 2, none⟩)) (fun _ _ => rfl) ?_ ?_
      · rintro ρ ⟨h5, -⟩ w'
        have e5 : ρ 5 = .pointer (some ⟨pa, 0, none⟩) := h5
        simp [execOp, evR, e5, go_sem]
      refine detT_read rfl (.slice (some ⟨gd, od, none⟩) la.length cd) (fun _ _ => rfl) ?_ ?_
      · rintro ρ ⟨h113, -⟩ c hc1 hc2
        have e113 : ρ 113 = .pointer (some ⟨pa, 2, none⟩) := h113
        have hc : c = 0 := by have h1 : 0 ≤ c := hc1; have h2 : c ≤ 0 := hc2; omega
        rcases hc with rfl
        · rw [q0]
          simp [execOp, evR, e113, c2w0, go_sem]
      refine detT_pure rfl (.int .i64 (k : Int)) (fun _ _ => rfl) ?_ ?_
      · rintro ρ ⟨h10, -⟩ w'
        have e10 : ρ 10 = .int .i64 (k : Int) := h10
        simp [execOp, evR, e10, go_sem]
      refine detT_pure rfl (.pointer (some ⟨gd, od + k, none⟩)) (fun _ _ => rfl) ?_ ?_
      · rintro ρ ⟨h114, h115, -⟩ w'
        have e114 : ρ 114 = .slice (some ⟨gd, od, none⟩) la.length cd := h114
        have e115 : ρ 115 = .int .i64 (k : Int) := h115
        exact index_u8o rfl e114 e115 (by omega)
      refine detT_read rfl (.int .u8 (x.toNat : Int)) (fun _ _ => rfl) ?_ ?_
      · rintro ρ ⟨h116, -⟩ c hc1 hc2
        have e116 : ρ 116 = .pointer (some ⟨gd, od + k, none⟩) := h116
        have hc : c = 0 := by have h1 : 0 ≤ c := hc1; have h2 : c ≤ 0 := hc2; omega
        rcases hc with rfl
        · rw [q0]
          simp [execOp, evR, e116, c3w0, go_sem]
      refine detT_pure rfl (.bool false) (fun _ _ => rfl) ?_ ?_
      · rintro ρ ⟨h112, h117, -⟩ w'
        have e112 : ρ 112 = .int .u8 (x.toNat : Int) := h112
        have e117 : ρ 117 = .int .u8 (x.toNat : Int) := h117
        simp [execOp, evR, e112, e117, go_sem]
      simp only [DetT, applyV, Act.put, List.setIfInBounds_toArray, List.set_cons_zero, List.set_cons_succ]
      rw [q0]
      have how0 := HHW.out.ext hext
      have tt1 := (how0.cell k (by omega)).2
      replace HSET := Lib.hid (how0.set_ k y)
      replace HK2 := Lib.hid ((HKB.out.trans (Kb.of_ext (fp := fun b => (Value.slice (some ⟨g, 0, none⟩) la.length co).ownBlock = some b) hext) (fun _ h => .inl h)).trans (Kb.set (fun b => (Value.slice (some ⟨g, 0, none⟩) la.length co).ownBlock = some b) w0 g k (.int .u8 (y.toNat : Int)) rfl) (fun _ h => .inl h))
      clear how0 tt cc
      go_wp2_with fail
      go_roundw
      case rel =>
        refine ⟨k + 1, cur.set k y, by omega, by simp, by simpa using hcl, fun j hj => ?_, HSET.out, HK2.out⟩
        rw [List.getElem?_set_ne (by omega)]
        exact HSA.out j (by omega)
      case measure => simp [intOf]; omega
    · have hke : k = la.length := by omega
      clear hkb hsame how
      go_wp2_with fail
      go_ret
      refine ⟨by simp, HEND.out.trans HKB.out (fun b hb => .inr (by have := HOWN.out.lt2 b hb; omega)), FF, HTK.out.kb HKB.out (fun j hj e => HOWF.out j e hj), HFS.out⟩
end Go.Proofs.Ytkejoiknnigllaa
