/-
  Layer 15: an act on both disks.
-/
import Derived.Test.YtkejoiknnigllaaDkDoLaw
import Derived.Laws.Closers25b
namespace Go.Proofs.Ytkejoiknnigllaa
open Go Go.RowKit Mono
set_option linter.unusedVariables false
set_option linter.unusedSimpArgs false
set_option maxRecDepth 100000
set_option maxHeartbeats 4000000


theorem do_6 {z bd br c : Nat} {F : Nat → Prop} {W : World} {d : Dk} (h : Pair z bd br F d d W) (hok : d.Ok) (hsm : d.SmallC c) (hc : c ≤ 1000000000) (hz : z ≤ W.heap.size) (kd : Int) (nm la : List UInt8) (an ak : Int) (hkd : kd = 6) (hl : nm.length ≤ maxLen) (hdl : la.length ≤ 20000) {v : Value} (hv : Bs W v la) (hvF : ∀ j, v.ownBlock = some j → 0 < la.length → j < W.heap.size ∧ ¬ F j) :
    Calls Try.prog 30 #[.pointer (some ⟨bd, 0, none⟩), .pointer (some ⟨br, 0, none⟩), .agg #[.int .i64 6, strV nm, v, .int .i64 an, .int .i64 ak]] W fun e w' => e = .returned (.bool true) ∧ Kb F W w' ∧ ∃ F', Pair z bd br F' (dFail d ak).1 (dFail d ak).1 w' ∧ ∀ k, F' k → F k ∨ W.heap.size ≤ k := by
  obtain ⟨Ad, cd, rfl, i1, i2, -, -⟩ := hv.open_
  subst hkd
  have HDB := Lib.hid hv
  have HOK := Lib.hid hok
  have HSM := Lib.hid (hsm.small hc)
  have HL := Lib.hid hl
  have HH := Lib.hid (h.mono (F' := fun k => F k ∧ k < W.heap.size) (fun k hk hlt _ => ⟨hk, hlt⟩))
  have HVF := Lib.hid hvF
  have HZ := Lib.hid hz
  unfold strV
  clear h hok hsm hvF hv hz
  go_enter Try.func30, Try.ntmps30
  go_wp2_with (at_builtin; refine wpList_append_bs _ rfl (.tmp 11) (.tmp 13) rfl (empty2 W (.cells #[.int .i64 6, .string ⟨nm.toArray⟩, .slice Ad la.length cd, .int .i64 an, .int .i64 ak] 44)) (HDB.out.ext ((ext_alloc _ _).trans (ext_alloc _ _))) rfl rfl (by simp; omega) (by simp) ?_; intro v1 W3 hown1 hg1 hat1; obtain ⟨Ao, co, rfl, hx, hb, ho⟩ := do_pre _ hown1 hg1; have HX3 := Lib.hid hx; have HBX0 := Lib.hid hb; have HOW := Lib.hid ho; have hkc := hb.cell (i := 0) rfl; clear hx hb ho hown1 hg1 hat1)
  obtain ⟨pa, hpa⟩ : ∃ p, p = W.heap.size := ⟨_, rfl⟩
  obtain ⟨FF, hFF⟩ : ∃ FF : Nat → Prop, FF = fun k => (F k ∧ k < W.heap.size) ∨ W3.heap.size ≤ k := ⟨_, rfl⟩
  have hsz3 : W.heap.size + 1 ≤ W3.heap.size := by have := HBX0.out.lt; omega
  have HP3 := Lib.hid (show Pair z bd br FF d d W3 by rw [hFF]; exact (HH.out.ext HX3.out).mono (fun k hk _ _ => .inl hk))
  have HFN := Lib.hid (show ∀ k, W3.heap.size ≤ k → FF k by rw [hFF]; exact fun k hk => .inr hk)
  have HFS := Lib.hid (show ∀ k, FF k → F k ∨ W.heap.size ≤ k by rw [hFF]; exact fun k hk => hk.elim (fun h => .inl h.1) (fun h => .inr (by omega)))
  have HFK := Lib.hid (show ∀ w, Kb FF W3 w → Kb F W w by
    rw [hFF]
    intro w hk
    refine (Kb.of_ext (fp := F) HX3.out).trans hk (fun b hb => ?_)
    rcases hb with hb | hb
    · exact .inl hb.1
    · exact .inr (by omega))
  have HBX := Lib.hid (show ∀ w, Kb FF W3 w → Blk w pa [.int .i64 6, .string ⟨nm.toArray⟩, .slice Ad la.length cd, .int .i64 an, .int .i64 ak] by
    rw [hFF, hpa]
    intro w hk
    obtain ⟨Tt, hb⟩ := HBX0.out
    exact ⟨Tt, (hk.block _ (Array.getElem?_eq_some_iff.1 hb).1 (fun hd => by
      rcases hd with hd | hd
      · omega
      · omega)).trans hb⟩)
  have HOWF := Lib.hid (show ∀ j, (Value.slice Ao la.length co).ownBlock = some j → ¬ FF j by
    rw [hFF]
    intro j hj hd
    have h1 := HOW.out.lt2 j hj
    have h2 := HOW.out.lt3 j hj
    rcases hd with hd | hd
    · omega
    · omega)
  have HDF := Lib.hid (show ∀ j, (Value.slice Ad la.length cd).ownBlock = some j → 0 < la.length → ¬ FF j by
    rw [hFF]
    intro j hj hp0 hd
    have h1 := HVF.out j hj hp0
    rcases hd with hd | hd
    · exact h1.2 hd.1
    · omega)
  have HDW := Lib.hid (show ∀ j, (Value.slice Ad la.length cd).ownBlock = some j → 0 < la.length → j < pa by rw [hpa]; exact fun j hj h0 => (HVF.out j hj h0).1)
  have HDB3 := Lib.hid (HDB.out.ext HX3.out)
  have HZ3 := Lib.hid (Nat.le_trans HZ.out (show W.heap.size ≤ W3.heap.size by omega))
  have HPA := Lib.hid hpa
  rw [← hpa]
  clear hpa hFF hkc hsz3 HH HVF HBX0 HDB
  refine wp_region_tok [false, false, false, true, false, false, false, true, false, false] (Kb FF) (fun c w => if c = 0 then Pair z bd br FF d d w else if c = 1 then Pair z bd br FF (dFail d ak).1 d w else Pair z bd br FF (dFail d ak).1 (dFail d ak).1 w) 2 (by kernel_rfl) (by kernel_rfl) (by kernel_rfl) (by kernel_rfl) (preKb FF) (Kb.of_ext (ext_drew W3)) (HP3.out.ext (ext_drew W3)) ?_
  refine tok_val rfl (.pointer (some ⟨bd, 0, none⟩)) (fun _ _ _ => rfl) ?_ ?_
  · rintro ρ w' he ⟨h0, -⟩
    have e0 : ρ 0 = .pointer (some ⟨bd, 0, none⟩) := h0
    simp [execOp, evR, e0, go_sem]
  refine tok_val rfl (.pointer (some ⟨pa, 4, none⟩)) (fun _ _ _ => rfl) ?_ ?_
  · rintro ρ w' he ⟨h5, -⟩
    have e5 : ρ 5 = .pointer (some ⟨pa, 0, none⟩) := h5
    simp [execOp, evR, e5, go_sem]
  refine tok_val rfl (.int .i64 ak) (fun _ _ _ => rfl) ?_ ?_
  · rintro ρ w' he ⟨h91, -⟩
    have e91 : ρ 91 = .pointer (some ⟨pa, 4, none⟩) := h91
    have c := (HBX.out w' he).cell (i := 4) rfl
    simp [execOp, evR, e91, c, go_sem]
  refine tok_call rfl rfl Try.func11 (by kernel_rfl) (fun v _ => v = .int .i64 ((dFail d ak).2 : Int)) (fun _ _ _ h _ => h) (fun _ _ _ => rfl) ?_ ?_
  · rintro ρ w' he ht ⟨h90, h92, -⟩
    have e90 : ρ 90 = .pointer (some ⟨bd, 0, none⟩) := h90
    have e92 : ρ 92 = .int .i64 ak := h92
    simp only [evR, List.map_toArray, List.map_cons, List.map_nil, e90, e92]
    have hp : Pair z bd br FF d d w' := ht
    refine (Pair.d (x := dFail d ak) hp (fun k hk => HFN.out k (Nat.le_trans he.size hk)) (fun bm pl ms hm => fail_any hm HOK.out HSM.out ak)).mono ?_
    rintro e w'' ⟨rfl, hk, hp'⟩
    exact ⟨_, rfl, hk, rfl, hp'⟩
  refine tok_val rfl (.pointer (some ⟨br, 0, none⟩)) (fun _ _ _ => rfl) ?_ ?_
  · rintro ρ w' he ⟨h1, -⟩
    have e1 : ρ 1 = .pointer (some ⟨br, 0, none⟩) := h1
    simp [execOp, evR, e1, go_sem]
  refine tok_val rfl (.pointer (some ⟨pa, 4, none⟩)) (fun _ _ _ => rfl) ?_ ?_
  · rintro ρ w' he ⟨h5, -⟩
    have e5 : ρ 5 = .pointer (some ⟨pa, 0, none⟩) := h5
    simp [execOp, evR, e5, go_sem]
  refine tok_val rfl (.int .i64 ak) (fun _ _ _ => rfl) ?_ ?_
  · rintro ρ w' he ⟨h95, -⟩
    have e95 : ρ 95 = .pointer (some ⟨pa, 4, none⟩) := h95
    have c := (HBX.out w' he).cell (i := 4) rfl
    simp [execOp, evR, e95, c, go_sem]
  refine tok_call rfl rfl Try.func12 (by kernel_rfl) (fun v _ => v = .int .i64 ((dFail d ak).2 : Int)) (fun _ _ _ h _ => h) (fun _ _ _ => rfl) ?_ ?_
  · rintro ρ w' he ht ⟨h94, h96, -⟩
    have e94 : ρ 94 = .pointer (some ⟨br, 0, none⟩) := h94
    have e96 : ρ 96 = .int .i64 ak := h96
    simp only [evR, List.map_toArray, List.map_cons, List.map_nil, e94, e96]
    have hp : Pair z bd br FF (dFail d ak).1 d w' := ht
    refine (Pair.r (x := dFail d ak) hp (fun k hk => HFN.out k (Nat.le_trans he.size hk)) (fun s hm hsub => rfail_any hm HOK.out HSM.out (Nat.le_trans HZ3.out he.size) ak)).mono ?_
    rintro e w'' ⟨rfl, hk, hp'⟩
    exact ⟨_, rfl, hk, rfl, hp'⟩
  refine tok_val rfl (.int .i64 ((dFail d ak).2 : Int)) (fun _ _ _ => rfl) ?_ ?_
  · rintro ρ w' he ⟨h93, -⟩
    have e93 : ρ 93 = .int .i64 ((dFail d ak).2 : Int) := h93
    simp [execOp, evR, e93, go_sem]
  refine tok_val rfl (.int .i64 ((dFail d ak).2 : Int)) (fun _ _ _ => rfl) ?_ ?_
  · rintro ρ w' he ⟨h97, -⟩
    have e97 : ρ 97 = .int .i64 ((dFail d ak).2 : Int) := h97
    simp [execOp, evR, e97, go_sem]
  refine tok_nil ?_
  rintro ρ w' hle htk ⟨f9, f8, f97, f96, f95, f94, f93, f92, f91, f90, -⟩ -
  replace f90 : ρ 90 = .pointer (some ⟨bd, 0, none⟩) := f90
  replace f91 : ρ 91 = .pointer (some ⟨pa, 4, none⟩) := f91
  replace f92 : ρ 92 = .int .i64 ak := f92
  replace f93 : ρ 93 = .int .i64 ((dFail d ak).2 : Int) := f93
  replace f94 : ρ 94 = .pointer (some ⟨br, 0, none⟩) := f94
  replace f95 : ρ 95 = .pointer (some ⟨pa, 4, none⟩) := f95
  replace f96 : ρ 96 = .int .i64 ak := f96
  replace f97 : ρ 97 = .int .i64 ((dFail d ak).2 : Int) := f97
  replace f8 : ρ 8 = .int .i64 ((dFail d ak).2 : Int) := f8
  replace f9 : ρ 9 = .int .i64 ((dFail d ak).2 : Int) := f9
  simp only [puts, Act.put, List.setIfInBounds_toArray, List.set_cons_zero, List.set_cons_succ]
  rw [f8, f9]
  replace htk : Pair z bd br FF (dFail d ak).1 (dFail d ak).1 w' := htk
  clear f90 f91 f92 f93 f94 f95 f96 f97 f8 f9
  obtain ⟨E, hE⟩ : ∃ E : Int, E = ((dFail d ak).2 : Int) := ⟨_, rfl⟩
  rw [← hE]
  clear hE
  have HOWN := Lib.hid (HOW.out.kb hle HOWF.out)
  have HBXN := Lib.hid (HBX.out _ hle)
  have HDT := Lib.hid (HDB3.out.kbp hle HDF.out)
  have HTK := Lib.hid htk
  have HEND := Lib.hid (HFK.out _ hle)
  have HWS := Lib.hid (show W.heap.size ≤ w'.heap.size from Nat.le_trans HX3.out.size hle.size)
  clear hle htk HOW HBX
  go_wp2_with fail
  go_loopw [10, 106] (fun _ iv wr => ∃ (k : Nat) (cur : List UInt8), k ≤ la.length ∧ iv = .int .i64 k ∧ cur.length = la.length ∧ (∀ j, k ≤ j → cur[j]? = la[j]?) ∧ OwB wr (W.heap.size + 1) (.slice Ao la.length co) cur ∧ Kb (fun b => (Value.slice Ao la.length co).ownBlock = some b) w' wr) (fun _ iv _ => la.length - (intOf iv).toNat)
  case atStart => exact ⟨0, la, Nat.zero_le _, rfl, rfl, fun _ _ => rfl, HOWN.out, Kb.refl _ _⟩
  case round =>
    obtain ⟨k, cur, hk, rfl, hcl, hsame, how, hkb⟩ := hrel
    have HKB := Lib.hid hkb
    have HSA := Lib.hid hsame
    have HHW := Lib.hid how
    by_cases hlt : k < la.length
    · obtain ⟨g, co', hform, -⟩ := OwB.form_ how hcl (by omega)
      injection hform with e1 e2 e3
      subst e1
      clear e2 e3 co'
      obtain ⟨cc, tt⟩ := how.cell k (by omega)
      obtain ⟨x, hx⟩ : ∃ x, la[k]? = some x := ⟨_, List.getElem?_eq_getElem hlt⟩
      have hcx : cur.getD k 0 = x := by rw [List.getD_eq_getElem?_getD, hsame k (Nat.le_refl _), hx]; rfl
      rw [hcx] at cc
      obtain ⟨y, hy⟩ := xor_u8 (x.toNat : Int) 255
      have hbx1 : Blk wr pa [.int .i64 6, .string ⟨nm.toArray⟩, .slice Ad la.length cd, .int .i64 an, .int .i64 ak] := by
        obtain ⟨Tt, hb⟩ := HBXN.out
        exact ⟨Tt, (hkb.block pa (Array.getElem?_eq_some_iff.1 hb).1 (fun e => by
          have h1 := HOWN.out.lt2 pa e
          have h2 := HPA.out
          omega)).trans hb⟩
      have hd1 : Bs wr (.slice Ad la.length cd) la := HDT.out.kbp hkb (fun j hj hp0 e => by
        have h1 := HOWN.out.lt2 j e
        have h2 := HDW.out j hj hp0
        have h3 := HPA.out
        omega)
      obtain ⟨A', c', hdv, j1, j2, j3, j4⟩ := hd1.open_
      obtain ⟨gd, od, hA', hgd, hcd⟩ := j4 (by omega)
      injection hdv with hdv1 hdv2 hdv3
      clear hdv2 hdv3
      rw [← hdv1] at hA'
      clear hdv1
      subst hA'
      have dc := hcd k x hx
      have hbx2 := hbx1.cell (i := 2) rfl
      have HSET := Lib.hid (how.set_ k y)
      have HK2 := Lib.hid (hkb.trans (Kb.set (fun b => (Value.slice (some ⟨g, 0, none⟩) la.length co).ownBlock = some b) wr g k (.int .u8 (y.toNat : Int)) rfl) (fun _ h => .inl h))
      clear hkb hsame how hd1 hcd j4 j3 hx hcx hbx1
      go_wp2_with fail
      refine wp_region_turns 0 [(0, 0, false), (0, 0, false), (0, 0, false), (0, 0, false), (0, 0, false), (0, 0, false), (0, 0, false), (0, 0, false), (0, 0, false), (0, 0, false)] (fun w0 c => w0) (by kernel_rfl) (by kernel_rfl) (by kernel_rfl) (fun _ => rfl) ?_
      intro w0 ws hext hsz hws
      have q0 : ws 0 = w0 := hws 0
      clear hws
      have hx24 := hext
      have c1w0 : w0.cell? ⟨g, k, none⟩ = some (.int .u8 (x.toNat : Int)) := (hext.cell (p := ⟨g, k, none⟩) (HHW.out.lt3 g rfl)).trans cc
      have c2w0 : w0.cell? ⟨pa, 2, none⟩ = some (.slice (some ⟨gd, od, none⟩) la.length cd) := (hext.cell (p := ⟨pa, 2, none⟩) (Nat.lt_of_lt_of_le (HBXN.out.lt) HKB.out.size)).trans hbx2
      have c3w0 : w0.cell? ⟨gd, od + k, none⟩ = some (.int .u8 (x.toNat : Int)) := (hext.cell (p := ⟨gd, od + k, none⟩) hgd).trans dc
      refine detT_pure rfl (.slice (some ⟨g, 0, none⟩) la.length co) (fun _ _ => rfl) ?_ ?_
      · rintro ρ ⟨h7, -⟩ w'
        have e7 : ρ 7 = .slice (some ⟨g, 0, none⟩) la.length co := h7
        simp [execOp, evR, e7, go_sem]
      refine detT_pure rfl (.int .i64 (k : Int)) (fun _ _ => rfl) ?_ ?_
      · rintro ρ ⟨h10, -⟩ w'
        have e10 : ρ 10 = .int .i64 (k : Int) := h10
        simp [execOp, evR, e10, go_sem]
      refine detT_pure rfl (.pointer (some ⟨g, k, none⟩)) (fun _ _ => rfl) ?_ ?_
      · rintro ρ ⟨h109, h110, -⟩ w'
        have e109 : ρ 109 = .slice (some ⟨g, 0, none⟩) la.length co := h109
        have e110 : ρ 110 = .int .i64 (k : Int) := h110
        exact index_u8 rfl e109 e110 (by omega)
      refine detT_read rfl (.int .u8 (x.toNat : Int)) (fun _ _ => rfl) ?_ ?_
      · rintro ρ ⟨h111, -⟩ c hc1 hc2
        have e111 : ρ 111 = .pointer (some ⟨g, k, none⟩) := h111
        have hc : c = 0 := by have h1 : 0 ≤ c := hc1; have h2 : c ≤ 0 := hc2; omega
        rcases hc with rfl
        · rw [q0]
          simp [execOp, evR, e111, c1w0, go_sem]
      refine detT_pure rfl (.pointer (some ⟨pa, 2, none⟩)) (fun _ _ => rfl) ?_ ?_
      · rintro ρ ⟨h5, -⟩ w'
        have e5 : ρ 5 = .pointer (some ⟨pa, 0, none⟩) := h5
        simp [execOp, evR, e5, go_sem]
      refine detT_read rfl (.slice (some ⟨gd, od, none⟩) la.length cd) (fun _ _ => rfl) ?_ ?_
      · rintro ρ ⟨h113, -⟩ c hc1 hc2
        have e113 : ρ 113 = .pointer (some ⟨pa, 2, none⟩) := h113
        have hc : c = 0 := by have h1 : 0 ≤ c := hc1; have h2 : c ≤ 0 := hc2; omega
        rcases hc with rfl
        · rw [q0]
          simp [execOp, evR, e113, c2w0, go_sem]
      refine detT_pure rfl (.int .i64 (k : Int)) (fun _ _ => rfl) ?_ ?_
      · rintro ρ ⟨h10, -⟩ w'
        have e10 : ρ 10 = .int .i64 (k : Int) := h10
        simp [execOp, evR, e10, go_sem]
      refine detT_pure rfl (.pointer (some ⟨gd, od + k, none⟩)) (fun _ _ => rfl) ?_ ?_
      · rintro ρ ⟨h114, h115, -⟩ w'
        have e114 : ρ 114 = .slice (some ⟨gd, od, none⟩) la.length cd := h114
        have e115 : ρ 115 = .int .i64 (k : Int) := h115
        exact index_u8o rfl e114 e115 (by omega)
      refine detT_read rfl (.int .u8 (x.toNat : Int)) (fun _ _ => rfl) ?_ ?_
      · rintro ρ ⟨h116, -⟩ c hc1 hc2
        have e116 : ρ 116 = .pointer (some ⟨gd, od + k, none⟩) := h116
        have hc : c = 0 := by have h1 : 0 ≤ c := hc1; have h2 : c ≤ 0 := hc2; omega
        rcases hc with rfl
        · rw [q0]
          simp [execOp, evR, e116, c3w0, go_sem]
      refine detT_pure rfl (.bool false) (fun _ _ => rfl) ?_ ?_
      · rintro ρ ⟨h112, h117, -⟩ w'
        have e112 : ρ 112 = .int .u8 (x.toNat : Int) := h112
        have e117 : ρ 117 = .int .u8 (x.toNat : Int) := h117
        simp [execOp, evR, e112, e117, go_sem]
      simp only [DetT, applyV, Act.put, List.setIfInBounds_toArray, List.set_cons_zero, List.set_cons_succ]
      rw [q0]
      have how0 := HHW.out.ext hext
      have tt1 := (how0.cell k (by omega)).2
      replace HSET := Lib.hid (how0.set_ k y)
      replace HK2 := Lib.hid ((HKB.out.trans (Kb.of_ext (fp := fun b => (Value.slice (some ⟨g, 0, none⟩) la.length co).ownBlock = some b) hext) (fun _ h => .inl h)).trans (Kb.set (fun b => (Value.slice (some ⟨g, 0, none⟩) la.length co).ownBlock = some b) w0 g k (.int .u8 (y.toNat : Int)) rfl) (fun _ h => .inl h))
      clear how0 tt cc
      go_wp2_with fail
      go_roundw
      case rel =>
        refine ⟨k + 1, cur.set k y, by omega, by simp, by simpa using hcl, fun j hj => ?_, HSET.out, HK2.out⟩
        rw [List.getElem?_set_ne (by omega)]
        exact HSA.out j (by omega)
      case measure => simp [intOf]; omega
    · have hke : k = la.length := by omega
      clear hkb hsame how
      go_wp2_with fail
      go_ret
      refine ⟨by simp, HEND.out.trans HKB.out (fun b hb => .inr (by have := HOWN.out.lt2 b hb; omega)), FF, HTK.out.kb HKB.out (fun j hj e => HOWF.out j e hj), HFS.out⟩

theorem do_7 {z bd br c : Nat} {F : Nat → Prop} {W : World} {d : Dk} (h : Pair z bd br F d d W) (hok : d.Ok) (hsm : d.SmallC c) (hc : c ≤ 1000000000) (hz : z ≤ W.heap.size) (kd : Int) (nm la : List UInt8) (an ak : Int) (hkd : kd = 7) (hl : nm.length ≤ maxLen) (hdl : la.length ≤ 20000) {v : Value} (hv : Bs W v la) (hvF : ∀ j, v.ownBlock = some j → 0 < la.length → j < W.heap.size ∧ ¬ F j) :
    Calls Try.prog 30 #[.pointer (some ⟨bd, 0, none⟩), .pointer (some ⟨br, 0, none⟩), .agg #[.int .i64 7, strV nm, v, .int .i64 an, .int .i64 ak]] W fun e w' => e = .returned (.bool true) ∧ Kb F W w' ∧ ∃ F', Pair z bd br F' (dPower d) (dPower d) w' ∧ ∀ k, F' k → F k ∨ W.heap.size ≤ k := by
  obtain ⟨Ad, cd, rfl, i1, i2, -, -⟩ := hv.open_
  subst hkd
  have HDB := Lib.hid hv
  have HOK := Lib.hid hok
  have HSM := Lib.hid (hsm.small hc)
  have HL := Lib.hid hl
  have HH := Lib.hid (h.mono (F' := fun k => F k ∧ k < W.heap.size) (fun k hk hlt _ => ⟨hk, hlt⟩))
  have HVF := Lib.hid hvF
  have HZ := Lib.hid hz
  unfold strV
  clear h hok hsm hvF hv hz
  go_enter Try.func30, Try.ntmps30
  go_wp2_with (at_builtin; refine wpList_append_bs _ rfl (.tmp 11) (.tmp 13) rfl (empty2 W (.cells #[.int .i64 7, .string ⟨nm.toArray⟩, .slice Ad la.length cd, .int .i64 an, .int .i64 ak] 44)) (HDB.out.ext ((ext_alloc _ _).trans (ext_alloc _ _))) rfl rfl (by simp; omega) (by simp) ?_; intro v1 W3 hown1 hg1 hat1; obtain ⟨Ao, co, rfl, hx, hb, ho⟩ := do_pre _ hown1 hg1; have HX3 := Lib.hid hx; have HBX0 := Lib.hid hb; have HOW := Lib.hid ho; have hkc := hb.cell (i := 0) rfl; clear hx hb ho hown1 hg1 hat1)
  obtain ⟨pa, hpa⟩ : ∃ p, p = W.heap.size := ⟨_, rfl⟩
  obtain ⟨FF, hFF⟩ : ∃ FF : Nat → Prop, FF = fun k => (F k ∧ k < W.heap.size) ∨ W3.heap.size ≤ k := ⟨_, rfl⟩
  have hsz3 : W.heap.size + 1 ≤ W3.heap.size := by have := HBX0.out.lt; omega
  have HP3 := Lib.hid (show Pair z bd br FF d d W3 by rw [hFF]; exact (HH.out.ext HX3.out).mono (fun k hk _ _ => .inl hk))
  have HFN := Lib.hid (show ∀ k, W3.heap.size ≤ k → FF k by rw [hFF]; exact fun k hk => .inr hk)
  have HFS := Lib.hid (show ∀ k, FF k → F k ∨ W.heap.size ≤ k by rw [hFF]; exact fun k hk => hk.elim (fun h => .inl h.1) (fun h => .inr (by omega)))
  have HFK := Lib.hid (show ∀ w, Kb FF W3 w → Kb F W w by
    rw [hFF]
    intro w hk
    refine (Kb.of_ext (fp := F) HX3.out).trans hk (fun b hb => ?_)
    rcases hb with hb | hb
    · exact .inl hb.1
    · exact .inr (by omega))
  have HBX := Lib.hid (show ∀ w, Kb FF W3 w → Blk w pa [.int .i64 7, .string ⟨nm.toArray⟩, .slice Ad la.length cd, .int .i64 an, .int .i64 ak] by
    rw [hFF, hpa]
    intro w hk
    obtain ⟨Tt, hb⟩ := HBX0.out
    exact ⟨Tt, (hk.block _ (Array.getElem?_eq_some_iff.1 hb).1 (fun hd => by
      rcases hd with hd | hd
      · omega
      · omega)).trans hb⟩)
  have HOWF := Lib.hid (show ∀ j, (Value.slice Ao la.length co).ownBlock = some j → ¬ FF j by
    rw [hFF]
    intro j hj hd
    have h1 := HOW.out.lt2 j hj
    have h2 := HOW.out.lt3 j hj
    rcases hd with hd | hd
    · omega
    · omega)
  have HDF := Lib.hid (show ∀ j, (Value.slice Ad la.length cd).ownBlock = some j → 0 < la.length → ¬ FF j by
    rw [hFF]
    intro j hj hp0 hd
    have h1 := HVF.out j hj hp0
    rcases hd with hd | hd
    · exact h1.2 hd.1
    · omega)
  have HDW := Lib.hid (show ∀ j, (Value.slice Ad la.length cd).ownBlock = some j → 0 < la.length → j < pa by rw [hpa]; exact fun j hj h0 => (HVF.out j hj h0).1)
  have HDB3 := Lib.hid (HDB.out.ext HX3.out)
  have HZ3 := Lib.hid (Nat.le_trans HZ.out (show W.heap.size ≤ W3.heap.size by omega))
  have HPA := Lib.hid hpa
  rw [← hpa]
  clear hpa hFF hkc hsz3 HH HVF HBX0 HDB
  refine (Pair.dpower HP3.out).mono ?_
  rintro e w1 ⟨rfl, hk1, hp1⟩
  have HK1 := Lib.hid hk1
  have HP1 := Lib.hid hp1
  clear hk1 hp1
  go_wp2_with fail
  refine (Pair.rpower HP1.out (fun k hk => HFN.out k (Nat.le_trans HK1.out.size hk))).mono ?_
  rintro e w' ⟨rfl, hk2, htk⟩
  have hle := HK1.out.trans hk2 (fun _ h => .inl h)
  clear hk2
  have HOWN := Lib.hid (HOW.out.kb hle HOWF.out)
  have HBXN := Lib.hid (HBX.out _ hle)
  have HDT := Lib.hid (HDB3.out.kbp hle HDF.out)
  have HTK := Lib.hid htk
  have HEND := Lib.hid (HFK.out _ hle)
  have HWS := Lib.hid (show W.heap.size ≤ w'.heap.size from Nat.le_trans HX3.out.size hle.size)
  clear hle htk HOW HBX
  go_wp2_with fail
  go_loopw [10, 106] (fun _ iv wr => ∃ (k : Nat) (cur : List UInt8), k ≤ la.length ∧ iv = .int .i64 k ∧ cur.length = la.length ∧ (∀ j, k ≤ j → cur[j]? = la[j]?) ∧ OwB wr (W.heap.size + 1) (.slice Ao la.length co) cur ∧ Kb (fun b => (Value.slice Ao la.length co).ownBlock = some b) w' wr) (fun _ iv _ => la.length - (intOf iv).toNat)
  case atStart => exact ⟨0, la, Nat.zero_le _, rfl, rfl, fun _ _ => rfl, HOWN.out, Kb.refl _ _⟩
  case round =>
    obtain ⟨k, cur, hk, rfl, hcl, hsame, how, hkb⟩ := hrel
    have HKB := Lib.hid hkb
    have HSA := Lib.hid hsame
    have HHW := Lib.hid how
    by_cases hlt : k < la.length
    · obtain ⟨g, co', hform, -⟩ := OwB.form_ how hcl (by omega)
      injection hform with e1 e2 e3
      subst e1
      clear e2 e3 co'
      obtain ⟨cc, tt⟩ := how.cell k (by omega)
      obtain ⟨x, hx⟩ : ∃ x, la[k]? = some x := ⟨_, List.getElem?_eq_getElem hlt⟩
      have hcx : cur.getD k 0 = x := by rw [List.getD_eq_getElem?_getD, hsame k (Nat.le_refl _), hx]; rfl
      rw [hcx] at cc
      obtain ⟨y, hy⟩ := xor_u8 (x.toNat : Int) 255
      have hbx1 : Blk wr pa [.int .i64 7, .string ⟨nm.toArray⟩, .slice Ad la.length cd, .int .i64 an, .int .i64 ak] := by
        obtain ⟨Tt, hb⟩ := HBXN.out
        exact ⟨Tt, (hkb.block pa (Array.getElem?_eq_some_iff.1 hb).1 (fun e => by
          have h1 := HOWN.out.lt2 pa e
          have h2 := HPA.out
          omega)).trans hb⟩
      have hd1 : Bs wr (.slice Ad la.length cd) la := HDT.out.kbp hkb (fun j hj hp0 e => by
        have h1 := HOWN.out.lt2 j e
        have h2 := HDW.out j hj hp0
        have h3 := HPA.out
        omega)
      obtain ⟨A', c', hdv, j1, j2, j3, j4⟩ := hd1.open_
      obtain ⟨gd, od, hA', hgd, hcd⟩ := j4 (by omega)
      injection hdv with hdv1 hdv2 hdv3
      clear hdv2 hdv3
      rw [← hdv1] at hA'
      clear hdv1
      subst hA'
      have dc := hcd k x hx
      have hbx2 := hbx1.cell (i := 2) rfl
      have HSET := Lib.hid (how.set_ k y)
      have HK2 := Lib.hid (hkb.trans (Kb.set (fun b => (Value.slice (some ⟨g, 0, none⟩) la.length co).ownBlock = some b) wr g k (.int .u8 (y.toNat : Int)) rfl) (fun _ h => .inl h))
      clear hkb hsame how hd1 hcd j4 j3 hx hcx hbx1
      go_wp2_with fail
      refine wp_region_turns 0 [(0, 0, false), (0, 0, false), (0, 0, false), (0, 0, false), (0, 0, false), (0, 0, false), (0, 0, false), (0, 0, false), (0, 0, false), (0, 0, false)] (fun w0 c => w0) (by kernel_rfl) (by kernel_rfl) (by kernel_rfl) (fun _ => rfl) ?_
      intro w0 ws hext hsz hws
      have q0 : ws 0 = w0 := hws 0
      clear hws
      have hx24 := hext
      have c1w0 : w0.cell? ⟨g, k, none⟩ = some (.int .u8 (x.toNat : Int)) := (hext.cell (p := ⟨g, k, none⟩) (HHW.out.lt3 g rfl)).trans cc
      have c2w0 : w0.cell? ⟨pa, 2, none⟩ = some (.slice (some ⟨gd, od, none⟩) la.length cd) := (hext.cell (p := ⟨pa, 2, none⟩) (Nat.lt_of_lt_of_le (HBXN.out.lt) HKB.out.size)).trans hbx2
      have c3w0 : w0.cell? ⟨gd, od + k, none⟩ = some (.int .u8 (x.toNat : Int)) := (hext.cell (p := ⟨gd, od + k, none⟩) hgd).trans dc
      refine detT_pure rfl (.slice (some ⟨g, 0, none⟩) la.length co) (fun _ _ => rfl) ?_ ?_
      · rintro ρ ⟨h7, -⟩ w'
        have e7 : ρ 7 = .slice (some ⟨g, 0, none⟩) la.length co := h7
        simp [execOp, evR, e7, go_sem]
      refine detT_pure rfl (.int .i64 (k : Int)) (fun _ _ => rfl) ?_ ?_
      · rintro ρ ⟨h10, -⟩ w'
        have e10 : ρ 10 = .int .i64 (k : Int) := h10
        simp [execOp, evR, e10, go_sem]
      refine detT_pure rfl (.pointer (some ⟨g, k, none⟩)) (fun _ _ => rfl) ?_ ?_
      · rintro ρ ⟨h109, h110, -⟩ w'
        have e109 : ρ 109 = .slice (some ⟨g, 0, none⟩) la.length co := h109
        have e110 : ρ 110 = .int .i64 (k : Int) := h110
        exact index_u8 rfl e109 e110 (by omega)
      refine detT_read rfl (.int .u8 (x.toNat : Int)) (fun _ _ => rfl) ?_ ?_
      · rintro ρ ⟨h111, -⟩ c hc1 hc2
        have e111 : ρ 111 = .pointer (some ⟨g, k, none⟩) := h111
        have hc : c = 0 := by have h1 : 0 ≤ c := hc1; have h2 : c ≤ 0 := hc2; omega
        rcases hc with rfl
        · rw [q0]
          simp [execOp, evR, e111, c1w0, go_sem]
      refine detT_pure rfl (.pointer (some ⟨pa, 2, none⟩)) (fun _ _ => rfl) ?_ ?_
      · rintro ρ ⟨h5, -⟩ w'
        have e5 : ρ 5 = .pointer (some ⟨pa, 0, none⟩) := h5
        simp [execOp, evR, e5, go_sem]
      refine detT_read rfl (.slice (some ⟨gd, od, none⟩) la.length cd) (fun _ _ => rfl) ?_ ?_
      · rintro ρ ⟨h113, -⟩ c hc1 hc2
        have e113 : ρ 113 = .pointer (some ⟨pa, 2, none⟩) := h113
        have hc : c = 0 := by have h1 : 0 ≤ c := hc1; have h2 : c ≤ 0 := hc2; omega
        rcases hc with rfl
        · rw [q0]
          simp [execOp, evR, e113, c2w0, go_sem]
      refine detT_pure rfl (.int .i64 (k : Int)) (fun _ _ => rfl) ?_ ?_
      · rintro ρ ⟨h10, -⟩ w'
        have e10 : ρ 10 = .int .i64 (k : Int) := h10
        simp [execOp, evR, e10, go_sem]
      refine detT_pure rfl (.pointer (some ⟨gd, od + k, none⟩)) (fun _ _ => rfl) ?_ ?_
      · rintro ρ ⟨h114, h115, -⟩ w'
        have e114 : ρ 114 = .slice (some ⟨gd, od, none⟩) la.length cd := h114
        have e115 : ρ 115 = .int .i64 (k : Int) := h115
        exact index_u8o rfl e114 e115 (by omega)
      refine detT_read rfl (.int .u8 (x.toNat : Int)) (fun _ _ => rfl) ?_ ?_
      · rintro ρ ⟨h116, -⟩ c hc1 hc2
        have e116 : ρ 116 = .pointer (some ⟨gd, od + k, none⟩) := h116
        have hc : c = 0 := by have h1 : 0 ≤ c := hc1; have h2 : c ≤ 0 := hc2; omega
        rcases hc with rfl
        · rw [q0]
          simp [execOp, evR, e116, c3w0, go_sem]
      refine detT_pure rfl (.bool false) (fun _ _ => rfl) ?_ ?_
      · rintro ρ ⟨h112, h117, -⟩ w'
        have e112 : ρ 112 = .int .u8 (x.toNat : Int) := h112
        have e117 : ρ 117 = .int .u8 (x.toNat : Int) := h117
        simp [execOp, evR, e112, e117, go_sem]
      simp only [DetT, applyV, Act.put, List.setIfInBounds_toArray, List.set_cons_zero, List.set_cons_succ]
      rw [q0]
      have how0 := HHW.out.ext hext
      have tt1 := (how0.cell k (by omega)).2
      replace HSET := Lib.hid (how0.set_ k y)
      replace HK2 := Lib.hid ((HKB.out.trans (Kb.of_ext (fp := fun b => (Value.slice (some ⟨g, 0, none⟩) la.length co).ownBlock = some b) hext) (fun _ h => .inl h)).trans (Kb.set (fun b => (Value.slice (some ⟨g, 0, none⟩) la.length co).ownBlock = some b) w0 g k (.int .u8 (y.toNat : Int)) rfl) (fun _ h => .inl h))
      clear how0 tt cc
      go_wp2_with fail
      go_roundw
      case rel =>
        refine ⟨k + 1, cur.set k y, by omega, by simp, by simpa using hcl, fun j hj => ?_, HSET.out, HK2.out⟩
        rw [List.getElem?_set_ne (by omega)]
        exact HSA.out j (by omega)
      case measure => simp [intOf]; omega
    · have hke : k = la.length := by omega
      clear hkb hsame how
      go_wp2_with fail
      go_ret
      refine ⟨by simp, HEND.out.trans HKB.out (fun b hb => .inr (by have := HOWN.out.lt2 b hb; omega)), FF, HTK.out.kb HKB.out (fun j hj e => HOWF.out j e hj), HFS.out⟩

theorem do_8 {z bd br c : Nat} {F : Nat → Prop} {W : World} {d : Dk} (h : Pair z bd br F d d W) (hok : d.Ok) (hsm : d.SmallC c) (hc : c ≤ 1000000000) (hz : z ≤ W.heap.size) (kd : Int) (nm la : List UInt8) (an ak : Int) (hkd : kd ≠ 0 ∧ kd ≠ 1 ∧ kd ≠ 2 ∧ kd ≠ 3 ∧ kd ≠ 4 ∧ kd ≠ 5 ∧ kd ≠ 6 ∧ kd ≠ 7) (hl : nm.length ≤ maxLen) (hdl : la.length ≤ 20000) {v : Value} (hv : Bs W v la) (hvF : ∀ j, v.ownBlock = some j → 0 < la.length → j < W.heap.size ∧ ¬ F j) :
    Calls Try.prog 30 #[.pointer (some ⟨bd, 0, none⟩), .pointer (some ⟨br, 0, none⟩), .agg #[.int .i64 kd, strV nm, v, .int .i64 an, .int .i64 ak]] W fun e w' => e = .returned (.bool true) ∧ Kb F W w' ∧ ∃ F', Pair z bd br F' d d w' ∧ ∀ k, F' k → F k ∨ W.heap.size ≤ k := by
  obtain ⟨Ad, cd, rfl, i1, i2, -, -⟩ := hv.open_
  obtain ⟨n0, n1, n2, n3, n4, n5, n6, n7⟩ := hkd
  have HDB := Lib.hid hv
  have HOK := Lib.hid hok
  have HSM := Lib.hid (hsm.small hc)
  have HL := Lib.hid hl
  have HH := Lib.hid (h.mono (F' := fun k => F k ∧ k < W.heap.size) (fun k hk hlt _ => ⟨hk, hlt⟩))
  have HVF := Lib.hid hvF
  have HZ := Lib.hid hz
  unfold strV
  clear h hok hsm hvF hv hz
  go_enter Try.func30, Try.ntmps30
  go_wp2_with (at_builtin; refine wpList_append_bs _ rfl (.tmp 11) (.tmp 13) rfl (empty2 W (.cells #[.int .i64 kd, .string ⟨nm.toArray⟩, .slice Ad la.length cd, .int .i64 an, .int .i64 ak] 44)) (HDB.out.ext ((ext_alloc _ _).trans (ext_alloc _ _))) rfl rfl (by simp; omega) (by simp) ?_; intro v1 W3 hown1 hg1 hat1; obtain ⟨Ao, co, rfl, hx, hb, ho⟩ := do_pre _ hown1 hg1; have HX3 := Lib.hid hx; have HBX0 := Lib.hid hb; have HOW := Lib.hid ho; have hkc := hb.cell (i := 0) rfl; clear hx hb ho hown1 hg1 hat1)
  obtain ⟨pa, hpa⟩ : ∃ p, p = W.heap.size := ⟨_, rfl⟩
  obtain ⟨FF, hFF⟩ : ∃ FF : Nat → Prop, FF = fun k => (F k ∧ k < W.heap.size) ∨ W3.heap.size ≤ k := ⟨_, rfl⟩
  have hsz3 : W.heap.size + 1 ≤ W3.heap.size := by have := HBX0.out.lt; omega
  have HP3 := Lib.hid (show Pair z bd br FF d d W3 by rw [hFF]; exact (HH.out.ext HX3.out).mono (fun k hk _ _ => .inl hk))
  have HFN := Lib.hid (show ∀ k, W3.heap.size ≤ k → FF k by rw [hFF]; exact fun k hk => .inr hk)
  have HFS := Lib.hid (show ∀ k, FF k → F k ∨ W.heap.size ≤ k by rw [hFF]; exact fun k hk => hk.elim (fun h => .inl h.1) (fun h => .inr (by omega)))
  have HFK := Lib.hid (show ∀ w, Kb FF W3 w → Kb F W w by
    rw [hFF]
    intro w hk
    refine (Kb.of_ext (fp := F) HX3.out).trans hk (fun b hb => ?_)
    rcases hb with hb | hb
    · exact .inl hb.1
    · exact .inr (by omega))
  have HBX := Lib.hid (show ∀ w, Kb FF W3 w → Blk w pa [.int .i64 kd, .string ⟨nm.toArray⟩, .slice Ad la.length cd, .int .i64 an, .int .i64 ak] by
    rw [hFF, hpa]
    intro w hk
    obtain ⟨Tt, hb⟩ := HBX0.out
    exact ⟨Tt, (hk.block _ (Array.getElem?_eq_some_iff.1 hb).1 (fun hd => by
      rcases hd with hd | hd
      · omega
      · omega)).trans hb⟩)
  have HOWF := Lib.hid (show ∀ j, (Value.slice Ao la.length co).ownBlock = some j → ¬ FF j by
    rw [hFF]
    intro j hj hd
    have h1 := HOW.out.lt2 j hj
    have h2 := HOW.out.lt3 j hj
    rcases hd with hd | hd
    · omega
    · omega)
  have HDF := Lib.hid (show ∀ j, (Value.slice Ad la.length cd).ownBlock = some j → 0 < la.length → ¬ FF j by
    rw [hFF]
    intro j hj hp0 hd
    have h1 := HVF.out j hj hp0
    rcases hd with hd | hd
    · exact h1.2 hd.1
    · omega)
  have HDW := Lib.hid (show ∀ j, (Value.slice Ad la.length cd).ownBlock = some j → 0 < la.length → j < pa by rw [hpa]; exact fun j hj h0 => (HVF.out j hj h0).1)
  have HDB3 := Lib.hid (HDB.out.ext HX3.out)
  have HZ3 := Lib.hid (Nat.le_trans HZ.out (show W.heap.size ≤ W3.heap.size by omega))
  have HPA := Lib.hid hpa
  rw [← hpa]
  clear hpa hFF hkc hsz3 HH HVF HBX0 HDB
  have hle := Kb.refl FF W3
  have htk := HP3.out
  have HOWN := Lib.hid (HOW.out.kb hle HOWF.out)
  have HBXN := Lib.hid (HBX.out _ hle)
  have HDT := Lib.hid (HDB3.out.kbp hle HDF.out)
  have HTK := Lib.hid htk
  have HEND := Lib.hid (HFK.out _ hle)
  have HWS := Lib.hid (show W.heap.size ≤ W3.heap.size from Nat.le_trans HX3.out.size hle.size)
  clear hle htk HOW HBX
  go_loopw [10, 106] (fun _ iv wr => ∃ (k : Nat) (cur : List UInt8), k ≤ la.length ∧ iv = .int .i64 k ∧ cur.length = la.length ∧ (∀ j, k ≤ j → cur[j]? = la[j]?) ∧ OwB wr (W.heap.size + 1) (.slice Ao la.length co) cur ∧ Kb (fun b => (Value.slice Ao la.length co).ownBlock = some b) W3 wr) (fun _ iv _ => la.length - (intOf iv).toNat)
  case atStart => exact ⟨0, la, Nat.zero_le _, rfl, rfl, fun _ _ => rfl, HOWN.out, Kb.refl _ _⟩
  case round =>
    obtain ⟨k, cur, hk, rfl, hcl, hsame, how, hkb⟩ := hrel
    have HKB := Lib.hid hkb
    have HSA := Lib.hid hsame
    have HHW := Lib.hid how
    by_cases hlt : k < la.length
    · obtain ⟨g, co', hform, -⟩ := OwB.form_ how hcl (by omega)
      injection hform with e1 e2 e3
      subst e1
      clear e2 e3 co'
      obtain ⟨cc, tt⟩ := how.cell k (by omega)
      obtain ⟨x, hx⟩ : ∃ x, la[k]? = some x := ⟨_, List.getElem?_eq_getElem hlt⟩
      have hcx : cur.getD k 0 = x := by rw [List.getD_eq_getElem?_getD, hsame k (Nat.le_refl _), hx]; rfl
      rw [hcx] at cc
      obtain ⟨y, hy⟩ := xor_u8 (x.toNat : Int) 255
      have hbx1 : Blk wr pa [.int .i64 kd, .string ⟨nm.toArray⟩, .slice Ad la.length cd, .int .i64 an, .int .i64 ak] := by
        obtain ⟨Tt, hb⟩ := HBXN.out
        exact ⟨Tt, (hkb.block pa (Array.getElem?_eq_some_iff.1 hb).1 (fun e => by
          have h1 := HOWN.out.lt2 pa e
          have h2 := HPA.out
          omega)).trans hb⟩
      have hd1 : Bs wr (.slice Ad la.length cd) la := HDT.out.kbp hkb (fun j hj hp0 e => by
        have h1 := HOWN.out.lt2 j e
        have h2 := HDW.out j hj hp0
        have h3 := HPA.out
        omega)
      obtain ⟨A', c', hdv, j1, j2, j3, j4⟩ := hd1.open_
      obtain ⟨gd, od, hA', hgd, hcd⟩ := j4 (by omega)
      injection hdv with hdv1 hdv2 hdv3
      clear hdv2 hdv3
      rw [← hdv1] at hA'
      clear hdv1
      subst hA'
      have dc := hcd k x hx
      have hbx2 := hbx1.cell (i := 2) rfl
      have HSET := Lib.hid (how.set_ k y)
      have HK2 := Lib.hid (hkb.trans (Kb.set (fun b => (Value.slice (some ⟨g, 0, none⟩) la.length co).ownBlock = some b) wr g k (.int .u8 (y.toNat : Int)) rfl) (fun _ h => .inl h))
      clear hkb hsame how hd1 hcd j4 j3 hx hcx hbx1
      go_wp2_with fail
      refine wp_region_turns 0 [(0, 0, false), (0, 0, false), (0, 0, false), (0, 0, false), (0, 0, false), (0, 0, false), (0, 0, false), (0, 0, false), (0, 0, false), (0, 0, false)] (fun w0 c => w0) (by kernel_rfl) (by kernel_rfl) (by kernel_rfl) (fun _ => rfl) ?_
      intro w0 ws hext hsz hws
      have q0 : ws 0 = w0 := hws 0
      clear hws
      have hx24 := hext
      have c1w0 : w0.cell? ⟨g, k, none⟩ = some (.int .u8 (x.toNat : Int)) := (hext.cell (p := ⟨g, k, none⟩) (HHW.out.lt3 g rfl)).trans cc
      have c2w0 : w0.cell? ⟨pa, 2, none⟩ = some (.slice (some ⟨gd, od, none⟩) la.length cd) := (hext.cell (p := ⟨pa, 2, none⟩) (Nat.lt_of_lt_of_le (HBXN.out.lt) HKB.out.size)).trans hbx2
      have c3w0 : w0.cell? ⟨gd, od + k, none⟩ = some (.int .u8 (x.toNat : Int)) := (hext.cell (p := ⟨gd, od + k, none⟩) hgd).trans dc
      refine detT_pure rfl (.slice (some ⟨g, 0, none⟩) la.length co) (fun _ _ => rfl) ?_ ?_
      · rintro ρ ⟨h7, -⟩ W3
        have e7 : ρ 7 = .slice (some ⟨g, 0, none⟩) la.length co := h7
        simp [execOp, evR, e7, go_sem]
      refine detT_pure rfl (.int .i64 (k : Int)) (fun _ _ => rfl) ?_ ?_
      · rintro ρ ⟨h10, -⟩ W3
        have e10 : ρ 10 = .int .i64 (k : Int) := h10
        simp [execOp, evR, e10, go_sem]
      refine detT_pure rfl (.pointer (some ⟨g, k, none⟩)) (fun _ _ => rfl) ?_ ?_
      · rintro ρ ⟨h109, h110, -⟩ W3
        have e109 : ρ 109 = .slice (some ⟨g, 0, none⟩) la.length co := h109
        have e110 : ρ 110 = .int .i64 (k : Int) := h110
        exact index_u8 rfl e109 e110 (by omega)
      refine detT_read rfl (.int .u8 (x.toNat : Int)) (fun _ _ => rfl) ?_ ?_
      · rintro ρ ⟨h111, -⟩ c hc1 hc2
        have e111 : ρ 111 = .pointer (some ⟨g, k, none⟩) := h111
        have hc : c = 0 := by have h1 : 0 ≤ c := hc1; have h2 : c ≤ 0 := hc2; omega
        rcases hc with rfl
        · rw [q0]
          simp [execOp, evR, e111, c1w0, go_sem]
      refine detT_pure rfl (.pointer (some ⟨pa, 2, none⟩)) (fun _ _ => rfl) ?_ ?_
      · rintro ρ ⟨h5, -⟩ W3
        have e5 : ρ 5 = .pointer (some ⟨pa, 0, none⟩) := h5
        simp [execOp, evR, e5, go_sem]
      refine detT_read rfl (.slice (some ⟨gd, od, none⟩) la.length cd) (fun _ _ => rfl) ?_ ?_
      · rintro ρ ⟨h113, -⟩ c hc1 hc2
        have e113 : ρ 113 = .pointer (some ⟨pa, 2, none⟩) := h113
        have hc : c = 0 := by have h1 : 0 ≤ c := hc1; have h2 : c ≤ 0 := hc2; omega
        rcases hc with rfl
        · rw [q0]
          simp [execOp, evR, e113, c2w0, go_sem]
      refine detT_pure rfl (.int .i64 (k : Int)) (fun _ _ => rfl) ?_ ?_
      · rintro ρ ⟨h10, -⟩ W3
        have e10 : ρ 10 = .int .i64 (k : Int) := h10
        simp [execOp, evR, e10, go_sem]
      refine detT_pure rfl (.pointer (some ⟨gd, od + k, none⟩)) (fun _ _ => rfl) ?_ ?_
      · rintro ρ ⟨h114, h115, -⟩ W3
        have e114 : ρ 114 = .slice (some ⟨gd, od, none⟩) la.length cd := h114
        have e115 : ρ 115 = .int .i64 (k : Int) := h115
        exact index_u8o rfl e114 e115 (by omega)
      refine detT_read rfl (.int .u8 (x.toNat : Int)) (fun _ _ => rfl) ?_ ?_
      · rintro ρ ⟨h116, -⟩ c hc1 hc2
        have e116 : ρ 116 = .pointer (some ⟨gd, od + k, none⟩) := h116
        have hc : c = 0 := by have h1 : 0 ≤ c := hc1; have h2 : c ≤ 0 := hc2; omega
        rcases hc with rfl
        · rw [q0]
          simp [execOp, evR, e116, c3w0, go_sem]
      refine detT_pure rfl (.bool false) (fun _ _ => rfl) ?_ ?_
      · rintro ρ ⟨h112, h117, -⟩ W3
        have e112 : ρ 112 = .int .u8 (x.toNat : Int) := h112
        have e117 : ρ 117 = .int .u8 (x.toNat : Int) := h117
        simp [execOp, evR, e112, e117, go_sem]
      simp only [DetT, applyV, Act.put, List.setIfInBounds_toArray, List.set_cons_zero, List.set_cons_succ]
      rw [q0]
      have how0 := HHW.out.ext hext
      have tt1 := (how0.cell k (by omega)).2
      replace HSET := Lib.hid (how0.set_ k y)
      replace HK2 := Lib.hid ((HKB.out.trans (Kb.of_ext (fp := fun b => (Value.slice (some ⟨g, 0, none⟩) la.length co).ownBlock = some b) hext) (fun _ h => .inl h)).trans (Kb.set (fun b => (Value.slice (some ⟨g, 0, none⟩) la.length co).ownBlock = some b) w0 g k (.int .u8 (y.toNat : Int)) rfl) (fun _ h => .inl h))
      clear how0 tt cc
      go_wp2_with fail
      go_roundw
      case rel =>
        refine ⟨k + 1, cur.set k y, by omega, by simp, by simpa using hcl, fun j hj => ?_, HSET.out, HK2.out⟩
        rw [List.getElem?_set_ne (by omega)]
        exact HSA.out j (by omega)
      case measure => simp [intOf]; omega
    · have hke : k = la.length := by omega
      clear hkb hsame how
      go_wp2_with fail
      go_ret
      refine ⟨by simp, HEND.out.trans HKB.out (fun b hb => .inr (by have := HOWN.out.lt2 b hb; omega)), FF, HTK.out.kb HKB.out (fun j hj e => HOWF.out j e hj), HFS.out⟩
end Go.Proofs.Ytkejoiknnigllaa
