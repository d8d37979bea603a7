/-
  Layer 15: Append of the document's disk.
-/
import Derived.Test.YtkejoiknnigllaaRkCut
namespace Go.Proofs.Ytkejoiknnigllaa
open Go Go.RowKit Mono
set_option linter.unusedVariables false
set_option linter.unusedSimpArgs false
set_option maxRecDepth 100000
set_option maxHeartbeats 2000000
theorem Bs.kbp {fp : Nat → Prop} {W W' : World} {v : Value} {b : List UInt8} (h : Bs W v b) (k : Kb fp W W') (hn : ∀ j, v.ownBlock = some j → 0 < b.length → ¬ fp j) : Bs W' v b := by
  obtain ⟨A, c, rfl, h1, h2, h3, h4⟩ := h.open_
  refine Bs.mk rfl h1 h2 h3 fun h0 => ?_
  obtain ⟨g, off, rfl, hg, hc⟩ := h4 h0
  refine ⟨g, off, rfl, Nat.lt_of_lt_of_le hg k.size, fun i x hx => ?_⟩
  rw [← hc i x hx]
  exact World.cell?_of_block (k.block g hg (hn g rfl h0))
theorem upd_append_ok {d : Dk} (h : d.Ok) {name b : List UInt8} {f : Fil} (hm : f ∈ d.fs) (hn : f.name = name) (h1 : ¬ 1048576 < f.b.length + b.length) (h2 : ¬ d.room < d.used + b.length) : (d.upd name fun f => { f with b := f.b ++ b }).Ok := by
  refine h.upd (fun _ => rfl) (fun x hx hxn => ?_) (fun x hx hxn => ?_) ?_
  · have := h.sure x hx
    show x.sure ≤ (x.b ++ b).length
    simp
    omega
  · have e := mem_uniq h hx hm (hxn.trans hn.symm)
    subst e
    show (x.b ++ b).length ≤ _
    simp
    omega
  · have key : ∀ fs : List Fil, fs.Pairwise (fun a b => a.name ≠ b.name) → usedF (updF name (fun f => { f with b := f.b ++ b }) fs) ≤ usedF fs + b.length := by
      intro fs
      induction fs with
      | nil => intro _; simp [updF, usedF]
      | cons x r ih =>
        intro hp
        obtain ⟨h3, h4⟩ := List.pairwise_cons.1 hp
        unfold usedF updF at *
        simp only [List.map_cons, List.sum_cons]
        by_cases hx : (x.name == name) = true
        · rw [if_pos hx]
          have hx' : x.name = name := by simpa using hx
          have off : r.map (fun f => if (f.name == name) = true then ({ f with b := f.b ++ b } : Fil) else f) = r := by
            conv => rhs; rw [← List.map_id r]
            refine List.map_congr_left fun y hy => ?_
            rw [if_neg]
            · rfl
            · intro hy2
              exact h3 y hy (by rw [hx']; simpa using Eq.symm (by simpa using hy2 : y.name = name))
          rw [off]
          simp
          omega
        · rw [if_neg hx]
          have := ih h4
          dsimp only at this
          omega
    have := key d.fs (h.sorted.imp fun {a b} hab e => by rw [e, bl_irrefl] at hab; cases hab)
    show usedF _ ≤ d.room
    have hd : d.used = usedF d.fs := rfl
    unfold Dk.upd
    dsimp only
    omega

theorem rappend_any {z br : Nat} {W : World} {s : RSt} {r : Dk} (h : RkM z W br s r) (hok : r.Ok) (hsm : r.Small) (hz : z ≤ W.heap.size) (name : List UInt8) {v : Value} {b : List UInt8} (hb : Bs W v b) (hna : ∀ j, v.ownBlock = some j → 0 < b.length → ¬ rall br s j) (hbs : b.length ≤ 4611686018427387904) :
    Calls Try.prog 49 #[.pointer (some ⟨br, 0, none⟩), strV name, v] W (RkPost z W br s r (dAppend r name b)) := by
  obtain ⟨A2, c2, rfl, ij1, ij2, ij3, ij4⟩ := hb.open_
  have HBB := Lib.hid hb
  have HNA := Lib.hid hna
  have hbl : b.length ≤ 9223372036854775807 := by unfold maxLen at ij2; omega
  clear hb hna ij3 ij4
  have HFI := Lib.hid (rfind_any h name)
  obtain ⟨A, cF, hv, f1, f2, f3⟩ := h.form
  have k1 := h.str.blk.cell (i := 1) rfl
  rw [hv] at k1
  have k2 := h.str.blk.cell (i := 2) rfl
  have k7 := h.str.blk.cell (i := 7) rfl
  have HH := Lib.hid h
  have HL := Lib.hid h.len
  obtain ⟨n, hn⟩ : ∃ n, n = s.ms.length := ⟨_, rfl⟩
  rw [← hn] at k1 f1 f3 hv
  have HN := Lib.hid hn
  have HV := Lib.hid hv
  have HOK := Lib.hid hok
  have HSM := Lib.hid hsm
  have HC := Lib.hid (rcounted_any h hsm)
  unfold maxLen at f2 ij2
  unfold strV at HFI ⊢
  clear h hn hv hok hsm
  cases hon : r.on
  · have hres : dAppend r name b = (r, 150) := by unfold dAppend; rw [if_pos hon]
    rw [hres]
    rw [hon] at k2
    simp only [Bool.not_false] at k2
    clear hon
    go_enter Try.func49, Try.ntmps49
    go_wp2_with fail
    go_ret
    exact RkPost.same HH.out (Ext.refl _) 150
  · rw [hon] at k2
    simp only [Bool.not_true] at k2
    have HON := Lib.hid hon
    clear hon
    cases hfi : findI name r.fs with
    | none =>
      have hfn := (findI_spec name r.fs).2 hfi
      have hres : dAppend r name b = (r, 152) := by unfold dAppend; rw [if_neg (by simp [HON.out]), hfn]
      rw [hres]
      rw [findZ_none hfi] at HFI
      clear hfi hfn
      go_enter Try.func49, Try.ntmps49
      go_wp2_with fail
      refine HFI.out.mono ?_
      rintro e w1 ⟨rfl, rfl⟩
      go_wp2_with fail
      go_ret
      exact RkPost.same HH.out (Ext.refl _) 152
    | some i =>
      obtain ⟨f, hf1, hf2⟩ := (findI_spec name r.fs).1 i hfi
      rw [findZ_some hfi] at HFI
      have hil : i < n := by rw [HN.out, HL.out]; exact (List.getElem?_eq_some_iff.1 hf1).1
      obtain ⟨g, rfl⟩ := f3 (by omega)
      obtain ⟨m, hm⟩ : ∃ m, s.ms[i]? = some m := ⟨_, List.getElem?_eq_getElem (by rw [← HN.out]; exact hil)⟩
      have hfe : f = m.fil := by have := HH.out.fil hm; rw [hf1] at this; injection this
      subst hfe
      obtain ⟨A1, c1, hmv, j1, j2, -, -⟩ := (HH.out.bytes m (List.mem_of_getElem? hm)).bs.open_
      have hlen : m.b.length ≤ 1048576 := HOK.out.len m.fil (List.mem_of_getElem? hf1)
      have hsure : m.sure ≤ m.b.length := HOK.out.sure m.fil (List.mem_of_getElem? hf1)
      have HFIE := Lib.hid hfi
      have HMM := Lib.hid hm
      have HMV := Lib.hid hmv
      have HF1 := Lib.hid hf1
      have HF2 := Lib.hid hf2
      have HFB := Lib.hid (show m.fil.b = m.b from rfl)
      clear hfi hm hmv hf1 hf2 f3
      obtain ⟨-, cv, -⟩ := HH.out.cells HV.out HMM.out
      rw [HMV.out] at cv
      have hfb : m.fil.b.length = m.b.length := rfl
      by_cases hl1 : 1048576 < m.b.length + b.length
      · have hres : dAppend r name b = (r, 3) := by
          unfold dAppend
          rw [if_neg (by simp [HON.out]), HF2.out]
          dsimp only
          rw [if_pos (by rw [hfb]; exact hl1)]
        rw [hres]
        by_cases hbig : b.length ≤ 4611686018427387904
        · have hw29 : IntKind.i64.wrap ((m.b.length : Int) + (b.length : Int)) = (m.b.length : Int) + (b.length : Int) := by rw [IntWalk.i64_in _ (by omega)]
          have hgt : (1048576 : Int) < (m.b.length : Int) + (b.length : Int) := by omega
          clear hfb
          go_enter Try.func49, Try.ntmps49
          go_wp2_with fail
          refine HFI.out.mono ?_
          rintro e w1 ⟨rfl, rfl⟩
          go_wp2_with fail
          go_ret
          exact RkPost.same HH.out (Ext.refl _) 3
        · exact absurd hbs (by omega)
      have hw29 : IntKind.i64.wrap ((m.b.length : Int) + (b.length : Int)) = (m.b.length : Int) + (b.length : Int) := by rw [IntWalk.i64_in _ (by omega)]
      have hgt : ¬ ((1048576 : Int) < (m.b.length : Int) + (b.length : Int)) := by omega
      have hub : r.used ≤ 1073741824 := Nat.le_trans HOK.out.used HOK.out.room
      have hrb : r.room ≤ 1073741824 := HOK.out.room
      have HUS0 := Lib.hid (fun (w' : World) (he : Ext W w') => rused_any (HH.out.ext he) HOK.out)
      obtain ⟨U, hU⟩ : ∃ U, U = r.used := ⟨_, rfl⟩
      have HU := Lib.hid hU
      rw [← hU] at hub
      have HUS := Lib.hid (fun (w' : World) (he : Ext W w') => show Calls _ _ _ w' (fun e w'' => e = .returned (.int .i64 (U : Int)) ∧ w'' = w') by rw [hU]; exact HUS0.out w' he)
      have HBR := Lib.hid HH.out.str.blk
      clear HUS0 hU
      by_cases hl2 : r.room < r.used + b.length
      · have hres : dAppend r name b = (r, 151) := by
          unfold dAppend
          rw [if_neg (by simp [HON.out]), HF2.out]
          dsimp only
          rw [if_neg (by rw [hfb]; exact hl1), if_pos hl2]
        rw [hres]
        rw [← HU.out] at hl2
        clear hfb
        go_enter Try.func49, Try.ntmps49
        go_wp2_with fail
        refine HFI.out.mono ?_
        rintro e w1 ⟨rfl, rfl⟩
        go_wp2_with fail
        refine wp_region_mono (by kernel_rfl) (by kernel_rfl) ?_
        refine tele_move rfl (.inl rfl) rfl (isV (.pointer (some ⟨br, 0, none⟩))) (fun ρ w' h => h) ?_
        refine tele_call rfl rfl Try.func54 (by kernel_rfl) (isV (.int .i64 (U : Int))) (fun _ _ _ => rfl) ?_ ?_
        · rintro ρ w' he ⟨h31, -⟩
          have e31 : ρ 31 = (.pointer (some ⟨br, 0, none⟩)) := h31
          simp only [evR, List.map_toArray, List.map_cons, List.map_nil, e31]
          refine (HUS.out w' he).mono ?_
          rintro e w'' ⟨rfl, rfl⟩
          exact ⟨_, rfl, Ext.refl _, rfl⟩
        refine tele_move rfl (.inl rfl) rfl (isV (.slice A2 b.length c2)) (fun ρ w' h => h) ?_
        refine tele_val rfl (.int .i64 (b.length : Int)) (fun _ _ _ => rfl) ?_ ?_
        · rintro ρ w' he ⟨h33, -⟩
          have e33 : ρ 33 = (.slice A2 b.length c2) := h33
          simp [execOp, evR, e33, go_sem]
        refine tele_val rfl (.int .i64 ((U : Int) + (b.length : Int))) (fun _ _ _ => rfl) ?_ ?_
        · rintro ρ w' he ⟨h32, h34, -⟩
          have e32 : ρ 32 = (.int .i64 (U : Int)) := h32
          have e34 : ρ 34 = (.int .i64 (b.length : Int)) := h34
          have hw : IntKind.i64.wrap ((U : Int) + (b.length : Int)) = (U : Int) + (b.length : Int) := by rw [IntWalk.i64_in _ (by omega)]
          simp [execOp, evR, e32, e34, hw, go_sem]
        refine tele_move rfl (.inl rfl) rfl (isV (.pointer (some ⟨br, 0, none⟩))) (fun ρ w' h => h) ?_
        refine tele_val rfl (.pointer (some ⟨br, 0, none⟩)) (fun _ _ _ => rfl) ?_ ?_
        · rintro ρ w' he ⟨h36, -⟩
          have e36 : ρ 36 = (.pointer (some ⟨br, 0, none⟩)) := h36
          simp [execOp, evR, e36, go_sem]
        refine tele_val rfl (.pointer (some ⟨br, 0, none⟩)) (fun _ _ _ => rfl) ?_ ?_
        · rintro ρ w' he ⟨h37, -⟩
          have e37 : ρ 37 = (.pointer (some ⟨br, 0, none⟩)) := h37
          simp [execOp, evR, e37, go_sem]
        refine tele_val rfl (.int .i64 (r.room : Int)) (fun _ _ _ => rfl) ?_ ?_
        · rintro ρ w' he ⟨h38, -⟩
          have e38 : ρ 38 = (.pointer (some ⟨br, 0, none⟩)) := h38
          have c := (HBR.out.ext he).cell (i := 0) rfl
          simp [execOp, evR, e38, c, go_sem]
        refine tele_val rfl (.bool true) (fun _ _ _ => rfl) ?_ ?_
        · rintro ρ w' he ⟨h35, h39, -⟩
          have e35 : ρ 35 = (.int .i64 ((U : Int) + (b.length : Int))) := h35
          have e39 : ρ 39 = (.int .i64 (r.room : Int)) := h39
          simp [execOp, evR, e35, e39, go_sem]
          omega
        refine tele_nil ?_
        rintro ρ w' hext ⟨f40, f39, f38, f37, f36, f35, f34, f33, f32, f31, -⟩
        replace f31 : ρ 31 = (.pointer (some ⟨br, 0, none⟩)) := f31
        replace f32 : ρ 32 = (.int .i64 (U : Int)) := f32
        replace f33 : ρ 33 = (.slice A2 b.length c2) := f33
        replace f34 : ρ 34 = (.int .i64 (b.length : Int)) := f34
        replace f35 : ρ 35 = (.int .i64 ((U : Int) + (b.length : Int))) := f35
        replace f36 : ρ 36 = (.pointer (some ⟨br, 0, none⟩)) := f36
        replace f37 : ρ 37 = (.pointer (some ⟨br, 0, none⟩)) := f37
        replace f38 : ρ 38 = (.pointer (some ⟨br, 0, none⟩)) := f38
        replace f39 : ρ 39 = (.int .i64 (r.room : Int)) := f39
        replace f40 : ρ 40 = (.bool true) := f40
        simp only [puts, Act.put, List.setIfInBounds_toArray, List.set_cons_zero, List.set_cons_succ]
        rw [f40]
        go_wp2_with fail
        go_ret
        exact RkPost.same HH.out hext 151
      · have hres : dAppend r name b = (r.upd name (fun f : Fil => { f with b := f.b ++ b })).count id := by
          unfold dAppend
          rw [if_neg (by simp [HON.out]), HF2.out]
          dsimp only
          rw [if_neg (by rw [hfb]; exact hl1), if_neg hl2]
        rw [hres]
        have HOK1 := Lib.hid (upd_append_ok HOK.out (List.mem_of_getElem? HF1.out) (findF_mem HF2.out).2 (by rw [hfb]; exact hl1) hl2)
        rw [← HU.out] at hl2
        clear hfb
        go_enter Try.func49, Try.ntmps49
        go_wp2_with fail
        refine HFI.out.mono ?_
        rintro e w1 ⟨rfl, rfl⟩
        go_wp2_with fail
        refine wp_region_mono (by kernel_rfl) (by kernel_rfl) ?_
        refine tele_move rfl (.inl rfl) rfl (isV (.pointer (some ⟨br, 0, none⟩))) (fun ρ w' h => h) ?_
        refine tele_call rfl rfl Try.func54 (by kernel_rfl) (isV (.int .i64 (U : Int))) (fun _ _ _ => rfl) ?_ ?_
        · rintro ρ w' he ⟨h31, -⟩
          have e31 : ρ 31 = (.pointer (some ⟨br, 0, none⟩)) := h31
          simp only [evR, List.map_toArray, List.map_cons, List.map_nil, e31]
          refine (HUS.out w' he).mono ?_
          rintro e w'' ⟨rfl, rfl⟩
          exact ⟨_, rfl, Ext.refl _, rfl⟩
        refine tele_move rfl (.inl rfl) rfl (isV (.slice A2 b.length c2)) (fun ρ w' h => h) ?_
        refine tele_val rfl (.int .i64 (b.length : Int)) (fun _ _ _ => rfl) ?_ ?_
        · rintro ρ w' he ⟨h33, -⟩
          have e33 : ρ 33 = (.slice A2 b.length c2) := h33
          simp [execOp, evR, e33, go_sem]
        refine tele_val rfl (.int .i64 ((U : Int) + (b.length : Int))) (fun _ _ _ => rfl) ?_ ?_
        · rintro ρ w' he ⟨h32, h34, -⟩
          have e32 : ρ 32 = (.int .i64 (U : Int)) := h32
          have e34 : ρ 34 = (.int .i64 (b.length : Int)) := h34
          have hw : IntKind.i64.wrap ((U : Int) + (b.length : Int)) = (U : Int) + (b.length : Int) := by rw [IntWalk.i64_in _ (by omega)]
          simp [execOp, evR, e32, e34, hw, go_sem]
        refine tele_move rfl (.inl rfl) rfl (isV (.pointer (some ⟨br, 0, none⟩))) (fun ρ w' h => h) ?_
        refine tele_val rfl (.pointer (some ⟨br, 0, none⟩)) (fun _ _ _ => rfl) ?_ ?_
        · rintro ρ w' he ⟨h36, -⟩
          have e36 : ρ 36 = (.pointer (some ⟨br, 0, none⟩)) := h36
          simp [execOp, evR, e36, go_sem]
        refine tele_val rfl (.pointer (some ⟨br, 0, none⟩)) (fun _ _ _ => rfl) ?_ ?_
        · rintro ρ w' he ⟨h37, -⟩
          have e37 : ρ 37 = (.pointer (some ⟨br, 0, none⟩)) := h37
          simp [execOp, evR, e37, go_sem]
        refine tele_val rfl (.int .i64 (r.room : Int)) (fun _ _ _ => rfl) ?_ ?_
        · rintro ρ w' he ⟨h38, -⟩
          have e38 : ρ 38 = (.pointer (some ⟨br, 0, none⟩)) := h38
          have c := (HBR.out.ext he).cell (i := 0) rfl
          simp [execOp, evR, e38, c, go_sem]
        refine tele_val rfl (.bool false) (fun _ _ _ => rfl) ?_ ?_
        · rintro ρ w' he ⟨h35, h39, -⟩
          have e35 : ρ 35 = (.int .i64 ((U : Int) + (b.length : Int))) := h35
          have e39 : ρ 39 = (.int .i64 (r.room : Int)) := h39
          simp [execOp, evR, e35, e39, go_sem]
          omega
        refine tele_nil ?_
        rintro ρ w' hext ⟨f40, f39, f38, f37, f36, f35, f34, f33, f32, f31, -⟩
        replace f31 : ρ 31 = (.pointer (some ⟨br, 0, none⟩)) := f31
        replace f32 : ρ 32 = (.int .i64 (U : Int)) := f32
        replace f33 : ρ 33 = (.slice A2 b.length c2) := f33
        replace f34 : ρ 34 = (.int .i64 (b.length : Int)) := f34
        replace f35 : ρ 35 = (.int .i64 ((U : Int) + (b.length : Int))) := f35
        replace f36 : ρ 36 = (.pointer (some ⟨br, 0, none⟩)) := f36
        replace f37 : ρ 37 = (.pointer (some ⟨br, 0, none⟩)) := f37
        replace f38 : ρ 38 = (.pointer (some ⟨br, 0, none⟩)) := f38
        replace f39 : ρ 39 = (.int .i64 (r.room : Int)) := f39
        replace f40 : ρ 40 = (.bool false) := f40
        simp only [puts, Act.put, List.setIfInBounds_toArray, List.set_cons_zero, List.set_cons_succ]
        rw [f40]
        have HXA := Lib.hid hext
        have HHA := Lib.hid (HH.out.ext hext)
        have HCA := Lib.hid (rcounted_any HHA.out HSM.out)
        clear hext f31 f32 f33 f34 f35 f36 f37 f38 f39 f40
        go_wp2_with fail
        refine HCA.out.mono ?_
        intro e w1 hcc
        obtain ⟨okb, n', r1, rfl, hs0, hd1, hd2, hfs1⟩ : ∃ okb n' r1, e = .returned (.bool okb) ∧ RkS z _ w1 br s r { s with n := n' } r1 ∧ (∀ k, r.dead = some k → okb = false ∧ r1 = r ∧ s.k = k) ∧ (r.dead = none → okb = true ∧ r1 = r.tick) ∧ r1.fs = r.fs := by
          cases hd : r.dead with
          | some k =>
            obtain ⟨rfl, rfl, hk⟩ := hcc.1 k hd
            exact ⟨false, s.n, r, rfl, RkS.ext HH.out HXA.out, fun k' h => by injection h with h; exact ⟨rfl, rfl, hk.trans h⟩, fun h => (by cases h), rfl⟩
          | none =>
            obtain ⟨rfl, n', hs⟩ := hcc.2 hd
            exact ⟨true, n', r.tick, rfl, (RkS.ext HH.out HXA.out).trans hs, fun k h => (by cases h), fun _ => ⟨rfl, rfl⟩, tick_fs r⟩
        have HS := Lib.hid hs0
        have HSK := Lib.hid hs0.kb
        have HD1 := Lib.hid hd1
        have HD2 := Lib.hid hd2
        have HFS1 := Lib.hid hfs1
        have hszW := hs0.kb.size
        have HBS := Lib.hid (show Bs w1 (.slice A1 m.b.length c1) m.b by have := (hs0.rk.bytes m (List.mem_of_getElem? HMM.out)).bs; rw [HMV.out] at this; exact this)
        have kk1 : w1.cell? ⟨br, 1, none⟩ = some s.v := hs0.rk.str.blk.cell (i := 1) rfl
        rw [HV.out] at kk1
        clear hcc hs0 hd1 hd2 hfs1
        go_wp2_with fail
        refine wp_region_turns 4 [(0, 3, false), (0, 3, false), (0, 3, false), (0, 3, false), (0, 3, false), (0, 0, true), (0, 3, false), (0, 3, false), (0, 3, false), (0, 3, false), (0, 3, false), (0, 3, false), (0, 3, false), (0, 1, false), (1, 1, true), (0, 2, false), (2, 2, true), (3, 4, false), (3, 3, false), (3, 3, true)] (fun w0 c => match c with | 0 => w0 | 1 => w0.alloc (.cells #[] 5) | 2 => resW ((Builtin.append_ #[23, 23] 23 #[.slice (some ⟨w0.heap.size, 0, none⟩) 0 0, .slice A1 m.b.length c1]).run Try.prog (w0.alloc (.cells #[] 5))) (w0.alloc (.cells #[] 5)) | 3 => resW ((Builtin.append_ #[23, 23] 23 #[resV ((Builtin.append_ #[23, 23] 23 #[.slice (some ⟨w0.heap.size, 0, none⟩) 0 0, .slice A1 m.b.length c1]).run Try.prog (w0.alloc (.cells #[] 5))), .slice A2 b.length c2]).run Try.prog (resW ((Builtin.append_ #[23, 23] 23 #[.slice (some ⟨w0.heap.size, 0, none⟩) 0 0, .slice A1 m.b.length c1]).run Try.prog (w0.alloc (.cells #[] 5))) (w0.alloc (.cells #[] 5)))) (resW ((Builtin.append_ #[23, 23] 23 #[.slice (some ⟨w0.heap.size, 0, none⟩) 0 0, .slice A1 m.b.length c1]).run Try.prog (w0.alloc (.cells #[] 5))) (w0.alloc (.cells #[] 5))) | _ => (resW ((Builtin.append_ #[23, 23] 23 #[resV ((Builtin.append_ #[23, 23] 23 #[.slice (some ⟨w0.heap.size, 0, none⟩) 0 0, .slice A1 m.b.length c1]).run Try.prog (w0.alloc (.cells #[] 5))), .slice A2 b.length c2]).run Try.prog (resW ((Builtin.append_ #[23, 23] 23 #[.slice (some ⟨w0.heap.size, 0, none⟩) 0 0, .slice A1 m.b.length c1]).run Try.prog (w0.alloc (.cells #[] 5))) (w0.alloc (.cells #[] 5)))) (resW ((Builtin.append_ #[23, 23] 23 #[.slice (some ⟨w0.heap.size, 0, none⟩) 0 0, .slice A1 m.b.length c1]).run Try.prog (w0.alloc (.cells #[] 5))) (w0.alloc (.cells #[] 5)))).setCell ⟨g, i * 3 + 1, none⟩ (resV ((Builtin.append_ #[23, 23] 23 #[resV ((Builtin.append_ #[23, 23] 23 #[.slice (some ⟨w0.heap.size, 0, none⟩) 0 0, .slice A1 m.b.length c1]).run Try.prog (w0.alloc (.cells #[] 5))), .slice A2 b.length c2]).run Try.prog (resW ((Builtin.append_ #[23, 23] 23 #[.slice (some ⟨w0.heap.size, 0, none⟩) 0 0, .slice A1 m.b.length c1]).run Try.prog (w0.alloc (.cells #[] 5))) (w0.alloc (.cells #[] 5)))))) (by kernel_rfl) (by kernel_rfl) (by kernel_rfl) (fun _ => rfl) ?_
        intro w0 ws hext hsz hws
        have q0 : ws 0 = w0 := hws 0
        have q1 : ws 1 = w0.alloc (.cells #[] 5) := hws 1
        have q2 : ws 2 = resW ((Builtin.append_ #[23, 23] 23 #[.slice (some ⟨w0.heap.size, 0, none⟩) 0 0, .slice A1 m.b.length c1]).run Try.prog (w0.alloc (.cells #[] 5))) (w0.alloc (.cells #[] 5)) := hws 2
        have q3 : ws 3 = resW ((Builtin.append_ #[23, 23] 23 #[resV ((Builtin.append_ #[23, 23] 23 #[.slice (some ⟨w0.heap.size, 0, none⟩) 0 0, .slice A1 m.b.length c1]).run Try.prog (w0.alloc (.cells #[] 5))), .slice A2 b.length c2]).run Try.prog (resW ((Builtin.append_ #[23, 23] 23 #[.slice (some ⟨w0.heap.size, 0, none⟩) 0 0, .slice A1 m.b.length c1]).run Try.prog (w0.alloc (.cells #[] 5))) (w0.alloc (.cells #[] 5)))) (resW ((Builtin.append_ #[23, 23] 23 #[.slice (some ⟨w0.heap.size, 0, none⟩) 0 0, .slice A1 m.b.length c1]).run Try.prog (w0.alloc (.cells #[] 5))) (w0.alloc (.cells #[] 5))) := hws 3
        have q4 : ws 4 = (resW ((Builtin.append_ #[23, 23] 23 #[resV ((Builtin.append_ #[23, 23] 23 #[.slice (some ⟨w0.heap.size, 0, none⟩) 0 0, .slice A1 m.b.length c1]).run Try.prog (w0.alloc (.cells #[] 5))), .slice A2 b.length c2]).run Try.prog (resW ((Builtin.append_ #[23, 23] 23 #[.slice (some ⟨w0.heap.size, 0, none⟩) 0 0, .slice A1 m.b.length c1]).run Try.prog (w0.alloc (.cells #[] 5))) (w0.alloc (.cells #[] 5)))) (resW ((Builtin.append_ #[23, 23] 23 #[.slice (some ⟨w0.heap.size, 0, none⟩) 0 0, .slice A1 m.b.length c1]).run Try.prog (w0.alloc (.cells #[] 5))) (w0.alloc (.cells #[] 5)))).setCell ⟨g, i * 3 + 1, none⟩ (resV ((Builtin.append_ #[23, 23] 23 #[resV ((Builtin.append_ #[23, 23] 23 #[.slice (some ⟨w0.heap.size, 0, none⟩) 0 0, .slice A1 m.b.length c1]).run Try.prog (w0.alloc (.cells #[] 5))), .slice A2 b.length c2]).run Try.prog (resW ((Builtin.append_ #[23, 23] 23 #[.slice (some ⟨w0.heap.size, 0, none⟩) 0 0, .slice A1 m.b.length c1]).run Try.prog (w0.alloc (.cells #[] 5))) (w0.alloc (.cells #[] 5))))) := hws 4
        clear hws
        have hM0 := HS.out.rk.ext hext
        have hx01 := ext_alloc w0 (.cells #[] 5)
        obtain ⟨i0, hi0, hz0, hz1, hz2⟩ := info_parts infoU8
        obtain ⟨v1, W2, hrun1, hown1, hgrow1, -⟩ := run_append_sl (P := Try.prog) (w := w0.alloc (.cells #[] 5)) w0.heap.size 23 23 5 i0 (.int .u8 0) 1 Try.underlying23 hi0 hz0 hz1 hz2 rfl (OwB.empty_ w0 (Nat.le_refl _)) ((HBS.out.ext hext).ext hx01) bv_one (by unfold maxLen; simp; omega) (by simp; omega) (by simp)
        have hx02 : Ext w0 W2 := Below.growB hx01 (OwB.empty_ w0 (Nat.le_refl _)) hgrow1 (Nat.le_refl _) (by simp)
        have hown1' : OwB W2 w0.heap.size v1 m.b := by
          have h := hown1
          simp only [List.map_nil, List.nil_append] at h
          exact h
        obtain ⟨v2, W3, hrun2, hown2, hgrow2, -⟩ := run_append_sl (P := Try.prog) (w := W2) w0.heap.size 23 23 5 i0 (.int .u8 0) 1 Try.underlying23 hi0 hz0 hz1 hz2 rfl hown1' ((HBB.out.kbp HSK.out (fun j hj h0 hd => HNA.out j hj h0 hd)).ext (hext.trans hx02)) bv_one (by unfold maxLen; simp; omega) (by simp; omega) hx02.size
        have hx03 : Ext w0 W3 := Below.growB hx02 hown1' hgrow2 (Nat.le_refl _) hx02.size
        have hown2' : OwB W3 w0.heap.size v2 (m.b ++ b) := by
          have h := hown2
          rw [← List.map_append] at h
          exact h
        obtain ⟨A3, c3, rfl, -⟩ := hown2'.bs.open_
        obtain ⟨L3, hL3⟩ : ∃ n, n = (m.b ++ b).length := ⟨_, rfl⟩
        rw [← hL3] at hown2' hrun2
        clear hL3
        rw [hrun1] at q2 q3 q4
        simp only [resW, resV] at q2 q3 q4
        rw [hrun2] at q3 q4
        simp only [resW, resV] at q3 q4
        have brw0 := hM0.str.blk
        simp only [rstr, HV.out] at brw0
        have brw1 := brw0.ext hx01
        have brw2 := brw0.ext hx02
        have brw3 := brw0.ext hx03
        have hM3 := hM0.ext hx03
        obtain ⟨d0, d1, d2⟩ := hM3.cells (s := { s with n := n' }) HV.out HMM.out
        obtain ⟨-, x1, -⟩ := hM0.cells (s := { s with n := n' }) HV.out HMM.out
        obtain ⟨-, y1, -⟩ := (hM0.ext hx01).cells (s := { s with n := n' }) HV.out HMM.out
        obtain ⟨-, y2, -⟩ := (hM0.ext hx02).cells (s := { s with n := n' }) HV.out HMM.out
        rw [HMV.out] at d1 x1 y1 y2
        have z1 := hM3.frozen (s := { s with n := n' }) HV.out (i * 3 + 1)
        refine detT_pure rfl (.pointer (some ⟨br, 0, none⟩)) (fun _ _ => rfl) ?_ ?_
        · rintro ρ ⟨h0, -⟩ w'
          have e0 : ρ 0 = .pointer (some ⟨br, 0, none⟩) := h0
          simp [execOp, evR, e0, go_sem]
        refine detT_pure rfl (.pointer (some ⟨br, 0, none⟩)) (fun _ _ => rfl) ?_ ?_
        · rintro ρ ⟨h43, -⟩ w'
          have e43 : ρ 43 = .pointer (some ⟨br, 0, none⟩) := h43
          simp [execOp, evR, e43, go_sem]
        refine detT_pure rfl (.pointer (some ⟨br, 1, none⟩)) (fun _ _ => rfl) ?_ ?_
        · rintro ρ ⟨h44, -⟩ w'
          have e44 : ρ 44 = .pointer (some ⟨br, 0, none⟩) := h44
          simp [execOp, evR, e44, go_sem]
        refine detT_read rfl (.slice (some ⟨g, 0, none⟩) n cF) (fun _ _ => rfl) ?_ ?_
        · rintro ρ ⟨h45, -⟩ c hc1 hc2
          have e45 : ρ 45 = .pointer (some ⟨br, 1, none⟩) := h45
          have hc : c = 0 ∨ c = 1 ∨ c = 2 ∨ c = 3 := by have h1 : 0 ≤ c := hc1; have h2 : c ≤ 3 := hc2; omega
          rcases hc with rfl | rfl | rfl | rfl
          · rw [q0]
            have c := brw0.cell (i := 1) rfl
            simp [execOp, evR, e45, c, go_sem]
          · rw [q1]
            have c := brw1.cell (i := 1) rfl
            simp [execOp, evR, e45, c, go_sem]
          · rw [q2]
            have c := brw2.cell (i := 1) rfl
            simp [execOp, evR, e45, c, go_sem]
          · rw [q3]
            have c := brw3.cell (i := 1) rfl
            simp [execOp, evR, e45, c, go_sem]
        refine detT_pure rfl (.int .i64 (i : Int)) (fun _ _ => rfl) ?_ ?_
        · rintro ρ ⟨h7, -⟩ w'
          have e7 : ρ 7 = .int .i64 (i : Int) := h7
          simp [execOp, evR, e7, go_sem]
        refine detT_turn rfl (.slice (some ⟨w0.heap.size, 0, none⟩) 0 0) (fun _ _ => rfl) ?_ ?_
        · rintro ρ -
          show (execOp (evR ρ) _).run Try.prog (ws 0) = .ok (.value _) (ws 1)
          rw [q0, q1]
          simp [execOp, evR, go_sem]
        refine detT_pure rfl (.pointer (some ⟨br, 0, none⟩)) (fun _ _ => rfl) ?_ ?_
        · rintro ρ ⟨h0, -⟩ w'
          have e0 : ρ 0 = .pointer (some ⟨br, 0, none⟩) := h0
          simp [execOp, evR, e0, go_sem]
        refine detT_pure rfl (.pointer (some ⟨br, 0, none⟩)) (fun _ _ => rfl) ?_ ?_
        · rintro ρ ⟨h49, -⟩ w'
          have e49 : ρ 49 = .pointer (some ⟨br, 0, none⟩) := h49
          simp [execOp, evR, e49, go_sem]
        refine detT_pure rfl (.pointer (some ⟨br, 1, none⟩)) (fun _ _ => rfl) ?_ ?_
        · rintro ρ ⟨h50, -⟩ w'
          have e50 : ρ 50 = .pointer (some ⟨br, 0, none⟩) := h50
          simp [execOp, evR, e50, go_sem]
        refine detT_read rfl (.slice (some ⟨g, 0, none⟩) n cF) (fun _ _ => rfl) ?_ ?_
        · rintro ρ ⟨h51, -⟩ c hc1 hc2
          have e51 : ρ 51 = .pointer (some ⟨br, 1, none⟩) := h51
          have hc : c = 0 ∨ c = 1 ∨ c = 2 ∨ c = 3 := by have h1 : 0 ≤ c := hc1; have h2 : c ≤ 3 := hc2; omega
          rcases hc with rfl | rfl | rfl | rfl
          · rw [q0]
            have c := brw0.cell (i := 1) rfl
            simp [execOp, evR, e51, c, go_sem]
          · rw [q1]
            have c := brw1.cell (i := 1) rfl
            simp [execOp, evR, e51, c, go_sem]
          · rw [q2]
            have c := brw2.cell (i := 1) rfl
            simp [execOp, evR, e51, c, go_sem]
          · rw [q3]
            have c := brw3.cell (i := 1) rfl
            simp [execOp, evR, e51, c, go_sem]
        refine detT_pure rfl (.int .i64 (i : Int)) (fun _ _ => rfl) ?_ ?_
        · rintro ρ ⟨h7, -⟩ w'
          have e7 : ρ 7 = .int .i64 (i : Int) := h7
          simp [execOp, evR, e7, go_sem]
        refine detT_pure rfl (.pointer (some ⟨g, i * 3, none⟩)) (fun _ _ => rfl) ?_ ?_
        · rintro ρ ⟨h52, h53, -⟩ w'
          have e52 : ρ 52 = .slice (some ⟨g, 0, none⟩) n cF := h52
          have e53 : ρ 53 = .int .i64 (i : Int) := h53
          exact index_at3 rfl e52 e53 (by omega)
        refine detT_pure rfl (.pointer (some ⟨g, i * 3 + 1, none⟩)) (fun _ _ => rfl) ?_ ?_
        · rintro ρ ⟨h54, -⟩ w'
          have e54 : ρ 54 = .pointer (some ⟨g, i * 3, none⟩) := h54
          simp [execOp, evR, e54, go_sem]
        refine detT_read rfl (.slice A1 m.b.length c1) (fun _ _ => rfl) ?_ ?_
        · rintro ρ ⟨h55, -⟩ c hc1 hc2
          have e55 : ρ 55 = .pointer (some ⟨g, i * 3 + 1, none⟩) := h55
          have hc : c = 0 ∨ c = 1 := by have h1 : 0 ≤ c := hc1; have h2 : c ≤ 1 := hc2; omega
          rcases hc with rfl | rfl
          · rw [q0]
            first
              | simp [execOp, evR, e55, x1, go_sem]; done
              | simp [execOp, evR, e55, y1, go_sem]; done
              | simp [execOp, evR, e55, y2, go_sem]; done
              | simp [execOp, evR, e55, d1, go_sem]; done
          · rw [q1]
            first
              | simp [execOp, evR, e55, x1, go_sem]; done
              | simp [execOp, evR, e55, y1, go_sem]; done
              | simp [execOp, evR, e55, y2, go_sem]; done
              | simp [execOp, evR, e55, d1, go_sem]; done
        refine detT_turn rfl (v1) (fun _ _ => rfl) ?_ ?_
        · rintro ρ ⟨h48, h56, -⟩
          have e48 : ρ 48 = .slice (some ⟨w0.heap.size, 0, none⟩) 0 0 := h48
          have e56 : ρ 56 = .slice A1 m.b.length c1 := h56
          show (execOp (evR ρ) _).run Try.prog (ws 1) = .ok (.value _) (ws 2)
          rw [q1, q2]
          simp only [execOp, resolve, invoke, builtin, evR, List.map_toArray, List.map_cons, List.map_nil, e48, e56, Sem.run_bind, Sem.run_pure, Result.andThen_ok, hrun1]
        refine detT_pure rfl (.slice A2 b.length c2) (fun _ _ => rfl) ?_ ?_
        · rintro ρ ⟨h2, -⟩ w'
          have e2 : ρ 2 = .slice A2 b.length c2 := h2
          simp [execOp, evR, e2, go_sem]
        refine detT_turn rfl (.slice A3 L3 c3) (fun _ _ => rfl) ?_ ?_
        · rintro ρ ⟨h57, h58, -⟩
          have e57 : ρ 57 = v1 := h57
          have e58 : ρ 58 = .slice A2 b.length c2 := h58
          show (execOp (evR ρ) _).run Try.prog (ws 2) = .ok (.value _) (ws 3)
          rw [q2, q3]
          simp only [execOp, resolve, invoke, builtin, evR, List.map_toArray, List.map_cons, List.map_nil, e57, e58, Sem.run_bind, Sem.run_pure, Result.andThen_ok, hrun2]
        refine detT_pure rfl (.pointer (some ⟨g, i * 3, none⟩)) (fun _ _ => rfl) ?_ ?_
        · rintro ρ ⟨h46, h47, -⟩ w'
          have e46 : ρ 46 = .slice (some ⟨g, 0, none⟩) n cF := h46
          have e47 : ρ 47 = .int .i64 (i : Int) := h47
          exact index_at3 rfl e46 e47 (by omega)
        refine detT_pure rfl (.pointer (some ⟨g, i * 3 + 1, none⟩)) (fun _ _ => rfl) ?_ ?_
        · rintro ρ ⟨h60, -⟩ w'
          have e60 : ρ 60 = .pointer (some ⟨g, i * 3, none⟩) := h60
          simp [execOp, evR, e60, go_sem]
        refine detT_store rfl (fun _ _ => rfl) ?_ ?_
        · rintro ρ ⟨h61, h59, -⟩
          have e61 : ρ 61 = .pointer (some ⟨g, i * 3 + 1, none⟩) := h61
          have e59 : ρ 59 = .slice A3 L3 c3 := h59
          show (execOp (evR ρ) _).run Try.prog (ws 3) = .ok .skip (ws 4)
          rw [q3, q4]
          simp [execOp, evR, e61, e59, d1, z1, go_sem]
        simp only [DetT, applyV, Act.put, List.setIfInBounds_toArray, List.set_cons_zero, List.set_cons_succ]
        rw [q4]
        have hzz : z ≤ w0.heap.size := Nat.le_trans hz (Nat.le_trans hszW hext.size)
        have hbn : BsT z W3 (.slice A3 L3 c3) (m.b ++ b) := ⟨hown2'.bs, fun j hj => ⟨Nat.le_trans hzz ((BsT.of_owb hown2').typed j hj).1, ((BsT.of_owb hown2').typed j hj).2⟩⟩
        have hnew : ∀ j, (Value.slice A3 L3 c3).ownBlock = some j → w0.heap.size ≤ j := fun j hj => ((BsT.of_owb hown2').typed j hj).1
        have hfin : (s.ms.set i ({ m with v := .slice A3 L3 c3, b := m.b ++ b } : RFil)).map RFil.fil = (r1.upd name (fun f : Fil => { f with b := f.b ++ b })).fs :=
          set_fil (fs := r1.fs) (g := (fun f : Fil => { f with b := f.b ++ b })) HS.out.rk.fs HMM.out (by rw [HFS1.out]; exact HFIE.out) (by rw [HFS1.out]; exact HOK.out.apart) rfl
        have a1 := hM3.fput (i := i) (m := m) (m' := { m with v := .slice A3 L3 c3, b := m.b ++ b }) (r' := r1.upd name (fun f : Fil => { f with b := f.b ++ b })) HV.out HMM.out 1 (.slice A3 L3 c3) (rcells_set1 _ _ HMM.out) hbn rfl rfl hfin
        have hgv : s.v.ownBlock = some g := by rw [HV.out]; rfl
        have hkb := (HS.out.kb.trans (Kb.of_ext (fp := rall br s) (hext.trans hx03)) (fun _ h => .inl h)).trans (Kb.set (rall br s) W3 g (i * 3 + 1) (.slice A3 L3 c3) (.inr (.inl hgv))) (fun _ h => .inl h)
        have hst : RkS z _ _ br s r { s with n := n', ms := s.ms.set i { m with v := .slice A3 L3 c3, b := m.b ++ b } } (r1.upd name (fun f : Fil => { f with b := f.b ++ b })) := ⟨a1, hkb, fun k hk => by
          rcases hk with rfl | hk | ⟨x, hx, hk⟩
          · exact .inl (.inl rfl)
          · exact .inl (.inr (.inl hk))
          · rcases List.mem_or_eq_of_mem_set hx with hx | rfl
            · exact .inl (.inr (.inr ⟨x, hx, hk⟩))
            · exact .inr (Nat.le_trans (Nat.le_trans hszW hext.size) (hnew k hk))⟩
        have HST := Lib.hid hst
        have kk7 : (W3.setCell ⟨g, i * 3 + 1, none⟩ (.slice A3 L3 c3)).cell? ⟨br, 7, none⟩ = some (.int .i64 s.k) := a1.str.blk.cell (i := 7) rfl
        have hne : br ≠ g := fun e => hM3.ne hgv e.symm
        have kk7' : W3.cell? ⟨br, 7, none⟩ = some (.int .i64 s.k) := hM3.str.blk.cell (i := 7) rfl
        have hzf := Nat.le_trans hz hkb.size
        have HZF := Lib.hid hzf
        clear a1 hkb hst hfin hbn hnew hown1 hown2 hown1' hown2' hrun1 hrun2 hgrow1 hgrow2 brw0 brw1 brw2 brw3 hM3 hM0 d0 d1 d2 x1 y1 y2 z1 q0 q1 q2 q3 q4 hx01 hx02 hx03 hzz kk1 ws hsz hzf
        cases hd : r.dead with
        | some k =>
          obtain ⟨rfl, rfl, hk⟩ := HD1.out k hd
          have HDD := Lib.hid (show (r1.upd name (fun f : Fil => { f with b := f.b ++ b })).dead = some k from hd)
          have HLO := Lib.hid (rlose_any HST.out.rk HOK1.out ⟨HSM.out.cnt, HSM.out.plan⟩ HZF.out k)
          rw [hk] at kk7 kk7'
          clear hd hk
          go_wp2_with fail
          refine HLO.out.mono ?_
          rintro e w2 ⟨rfl, s', hs⟩
          have HS2 := Lib.hid (HST.out.trans hs)
          clear hs
          go_wp2_with fail
          go_ret
          exact RkPost.lost HDD.out HS2.out
        | none =>
          obtain ⟨rfl, rfl⟩ := HD2.out hd
          have HDD := Lib.hid (show (r.upd name (fun f : Fil => { f with b := f.b ++ b })).dead = none from hd)
          have HTK := Lib.hid (show r.tick.upd name (fun f : Fil => { f with b := f.b ++ b }) = id (r.upd name (fun f : Fil => { f with b := f.b ++ b })).tick by
            unfold Dk.tick Dk.upd
            rcases r.plan with _ | ⟨_ | n, k⟩ <;> rfl)
          clear hd
          go_wp2_with fail
          go_ret
          exact RkPost.acted HDD.out (by rw [← HTK.out]; exact HST.out)
end Go.Proofs.Ytkejoiknnigllaa
