/-
  Layer 15: Cut of the document's disk.
-/
import Derived.Test.YtkejoiknnigllaaRkOps
namespace Go.Proofs.Ytkejoiknnigllaa
open Go Go.RowKit Mono
set_option linter.unusedVariables false
set_option linter.unusedSimpArgs false
set_option maxRecDepth 100000
set_option maxHeartbeats 2000000
theorem set_same {ms : List RFil} {i : Nat} {m : RFil} (h : ms[i]? = some m) : ms.set i m = ms := by
  have hil : i < ms.length := (List.getElem?_eq_some_iff.1 h).1
  apply List.ext_getElem?
  intro j
  rw [List.getElem?_set]
  split
  · rename_i hij
    subst hij
    first | rw [h, if_pos hil] | rw [h]
  · rfl

theorem rcut_any {z br : Nat} {W : World} {s : RSt} {r : Dk} (h : RkM z W br s r) (hok : r.Ok) (hsm : r.Small) (hz : z ≤ W.heap.size) (name : List UInt8) (nn : Int) :
    Calls Try.prog 51 #[.pointer (some ⟨br, 0, none⟩), strV name, .int .i64 nn] W (RkPost z W br s r (dCut r name nn)) := by
  have HFI := Lib.hid (rfind_any h name)
  obtain ⟨A, cF, hv, f1, f2, f3⟩ := h.form
  have k1 := h.str.blk.cell (i := 1) rfl
  rw [hv] at k1
  have k2 := h.str.blk.cell (i := 2) rfl
  have k7 := h.str.blk.cell (i := 7) rfl
  have HH := Lib.hid h
  have HL := Lib.hid h.len
  obtain ⟨n, hn⟩ : ∃ n, n = s.ms.length := ⟨_, rfl⟩
  rw [← hn] at k1 f1 f3 hv
  have HN := Lib.hid hn
  have HV := Lib.hid hv
  have HOK := Lib.hid hok
  have HSM := Lib.hid hsm
  have HC := Lib.hid (rcounted_any h hsm)
  unfold maxLen at f2
  unfold strV at HFI ⊢
  clear h hn hv hok hsm
  cases hon : r.on
  · have hres : dCut r name nn = (r, 150) := by unfold dCut; rw [if_pos hon]
    rw [hres]
    rw [hon] at k2
    simp only [Bool.not_false] at k2
    clear hon
    go_enter Try.func51, Try.ntmps51
    go_wp2_with fail
    go_ret
    exact RkPost.same HH.out (Ext.refl _) 150
  · rw [hon] at k2
    simp only [Bool.not_true] at k2
    have HON := Lib.hid hon
    clear hon
    cases hfi : findI name r.fs with
    | none =>
      have hfn := (findI_spec name r.fs).2 hfi
      have hres : dCut r name nn = (r, 152) := by unfold dCut; rw [if_neg (by simp [HON.out]), hfn]
      rw [hres]
      rw [findZ_none hfi] at HFI
      clear hfi hfn
      go_enter Try.func51, Try.ntmps51
      go_wp2_with fail
      refine HFI.out.mono ?_
      rintro e w1 ⟨rfl, rfl⟩
      go_wp2_with fail
      go_ret
      exact RkPost.same HH.out (Ext.refl _) 152
    | some i =>
      obtain ⟨f, hf1, hf2⟩ := (findI_spec name r.fs).1 i hfi
      rw [findZ_some hfi] at HFI
      have hil : i < n := by rw [HN.out, HL.out]; exact (List.getElem?_eq_some_iff.1 hf1).1
      obtain ⟨g, rfl⟩ := f3 (by omega)
      obtain ⟨m, hm⟩ : ∃ m, s.ms[i]? = some m := ⟨_, List.getElem?_eq_getElem (by rw [← HN.out]; exact hil)⟩
      have hfe : f = m.fil := by have := HH.out.fil hm; rw [hf1] at this; injection this
      subst hfe
      obtain ⟨A1, c1, hmv, j1, j2, -, -⟩ := (HH.out.bytes m (List.mem_of_getElem? hm)).bs.open_
      have hlen : m.b.length ≤ 1048576 := HOK.out.len m.fil (List.mem_of_getElem? hf1)
      have hsure : m.sure ≤ m.b.length := HOK.out.sure m.fil (List.mem_of_getElem? hf1)
      have HFIE := Lib.hid hfi
      have HMM := Lib.hid hm
      have HMV := Lib.hid hmv
      have HF1 := Lib.hid hf1
      have HF2 := Lib.hid hf2
      have HFB := Lib.hid (show m.fil.b = m.b from rfl)
      clear hfi hm hmv hf1 hf2 f3
      have hb1 := (HH.out.bytes m (List.mem_of_getElem? HMM.out)).bs
      rw [HMV.out] at hb1
      have HBS0 := Lib.hid hb1
      clear hb1
      obtain ⟨-, cv, -⟩ := HH.out.cells HV.out HMM.out
      rw [HMV.out] at cv
      by_cases hn0 : nn < 0
      · have hres : dCut r name nn = (r, 2) := by
          unfold dCut
          rw [if_neg (by simp [HON.out]), HF2.out]
          dsimp only
          rw [if_pos (show nn < 0 ∨ (m.fil.b.length : Int) < nn from .inl hn0)]
        rw [hres]
        go_enter Try.func51, Try.ntmps51
        go_wp2_with fail
        refine HFI.out.mono ?_
        rintro e w1 ⟨rfl, rfl⟩
        go_wp2_with fail
        go_ret
        exact RkPost.same HH.out (Ext.refl _) 2
      by_cases hnl : (m.b.length : Int) < nn
      · have hres : dCut r name nn = (r, 2) := by
          unfold dCut
          rw [if_neg (by simp [HON.out]), HF2.out]
          dsimp only
          rw [if_pos (show nn < 0 ∨ (m.fil.b.length : Int) < nn from .inr hnl)]
        rw [hres]
        go_enter Try.func51, Try.ntmps51
        go_wp2_with fail
        refine HFI.out.mono ?_
        rintro e w1 ⟨rfl, rfl⟩
        go_wp2_with fail
        go_ret
        exact RkPost.same HH.out (Ext.refl _) 2
      obtain ⟨N, rfl⟩ : ∃ N : Nat, nn = (N : Int) := ⟨nn.toNat, by omega⟩
      have hn1 : N ≤ m.b.length := by omega
      have hres : dCut r name (N : Int) = r.count (fun d : Dk => d.upd name fun f => ⟨f.name, f.b.take ((N : Int)).toNat, min f.sure ((N : Int)).toNat⟩) := by
        unfold dCut
        rw [if_neg (by simp [HON.out]), HF2.out]
        dsimp only
        rw [if_neg (show ¬ ((N : Int) < 0 ∨ (m.fil.b.length : Int) < (N : Int)) from fun h => h.elim hn0 hnl)]
      rw [hres]
      cases hd : r.dead with
      | some k =>
        have HD := Lib.hid hd
        have HC1 := Lib.hid (HC.out.mono (fun e w' hx => hx.1 k hd))
        have HLO := Lib.hid (rlose_any HH.out HOK.out HSM.out hz k)
        clear hd
        go_enter Try.func51, Try.ntmps51
        go_wp2_with fail
        refine HFI.out.mono ?_
        rintro e w1 ⟨rfl, rfl⟩
        go_wp2_with fail
        refine HC1.out.mono ?_
        rintro e w1 ⟨rfl, rfl, hk⟩
        rw [hk] at k7
        clear hk
        go_wp2_with fail
        refine HLO.out.mono ?_
        rintro e w2 ⟨rfl, s', hs⟩
        have HS := Lib.hid hs
        clear hs
        go_wp2_with fail
        go_ret
        exact RkPost.lost HD.out HS.out
      | none =>
        have HD := Lib.hid hd
        have HC1 := Lib.hid (HC.out.mono (fun e w' hx => hx.2 hd))
        clear hd
        go_enter Try.func51, Try.ntmps51
        go_wp2_with fail
        refine HFI.out.mono ?_
        rintro e w1 ⟨rfl, rfl⟩
        go_wp2_with fail
        refine HC1.out.mono ?_
        rintro e w1 ⟨rfl, n', hs⟩
        have HS := Lib.hid hs
        have kk1 : w1.cell? ⟨br, 1, none⟩ = some s.v := hs.rk.str.blk.cell (i := 1) rfl
        rw [HV.out] at kk1
        clear hs
        go_wp2_with fail
        have HBS := Lib.hid (show Bs w1 (.slice A1 m.b.length c1) m.b by have := (HS.out.rk.bytes m (List.mem_of_getElem? HMM.out)).bs; rw [HMV.out] at this; exact this)
        refine wp_region_turns 3 [(0, 2, false), (0, 2, false), (0, 2, false), (0, 2, false), (0, 2, false), (0, 0, true), (0, 2, false), (0, 2, false), (0, 2, false), (0, 2, false), (0, 2, false), (0, 2, false), (0, 2, false), (0, 2, false), (0, 2, false), (0, 1, false), (1, 1, true), (2, 3, false), (2, 2, false), (2, 2, true)] (fun w0 c => match c with | 0 => w0 | 1 => w0.alloc (.cells #[] 5) | 2 => resW ((Builtin.append_ #[23, 23] 23 #[.slice (some ⟨w0.heap.size, 0, none⟩) 0 0, .slice A1 N c1]).run Try.prog (w0.alloc (.cells #[] 5))) (w0.alloc (.cells #[] 5)) | _ => (resW ((Builtin.append_ #[23, 23] 23 #[.slice (some ⟨w0.heap.size, 0, none⟩) 0 0, .slice A1 N c1]).run Try.prog (w0.alloc (.cells #[] 5))) (w0.alloc (.cells #[] 5))).setCell ⟨g, i * 3 + 1, none⟩ (resV ((Builtin.append_ #[23, 23] 23 #[.slice (some ⟨w0.heap.size, 0, none⟩) 0 0, .slice A1 N c1]).run Try.prog (w0.alloc (.cells #[] 5))))) (by kernel_rfl) (by kernel_rfl) (by kernel_rfl) (fun _ => rfl) ?_
        intro w0 ws hext hsz hws
        have q0 : ws 0 = w0 := hws 0
        have q1 : ws 1 = w0.alloc (.cells #[] 5) := hws 1
        have q2 : ws 2 = resW ((Builtin.append_ #[23, 23] 23 #[.slice (some ⟨w0.heap.size, 0, none⟩) 0 0, .slice A1 N c1]).run Try.prog (w0.alloc (.cells #[] 5))) (w0.alloc (.cells #[] 5)) := hws 2
        have q3 : ws 3 = (resW ((Builtin.append_ #[23, 23] 23 #[.slice (some ⟨w0.heap.size, 0, none⟩) 0 0, .slice A1 N c1]).run Try.prog (w0.alloc (.cells #[] 5))) (w0.alloc (.cells #[] 5))).setCell ⟨g, i * 3 + 1, none⟩ (resV ((Builtin.append_ #[23, 23] 23 #[.slice (some ⟨w0.heap.size, 0, none⟩) 0 0, .slice A1 N c1]).run Try.prog (w0.alloc (.cells #[] 5)))) := hws 3
        clear hws
        have hM0 := HS.out.rk.ext hext
        have hx01 := ext_alloc w0 (.cells #[] 5)
        obtain ⟨i0, hi0, hz0, hz1, hz2⟩ := info_parts infoU8
        obtain ⟨v', W2, hrun, hown, hgrow, -⟩ := run_append_sl (P := Try.prog) (w := w0.alloc (.cells #[] 5)) w0.heap.size 23 23 5 i0 (.int .u8 0) 1 Try.underlying23 hi0 hz0 hz1 hz2 rfl (OwB.empty_ w0 (Nat.le_refl _)) (((HBS.out.ext hext).upto hn1).ext hx01) bv_one (by unfold maxLen; simp; omega) (by simp; omega) (by simp)
        have hx02 : Ext w0 W2 := Below.growB hx01 (OwB.empty_ w0 (Nat.le_refl _)) hgrow (Nat.le_refl _) (by simp)
        have hown' : OwB W2 w0.heap.size v' (m.b.take N) := by
          have h := hown
          simp only [List.map_nil, List.nil_append] at h
          exact h
        obtain ⟨A3, c3, rfl, -⟩ := hown'.bs.open_
        obtain ⟨L3, hL3⟩ : ∃ n, n = (m.b.take N).length := ⟨_, rfl⟩
        rw [← hL3] at hown' hrun
        clear hL3
        rw [hrun] at q2 q3
        simp only [resW, resV] at q2 q3
        have brw0 := hM0.str.blk
        simp only [rstr, HV.out] at brw0
        have brw1 := brw0.ext hx01
        have brw2 := brw0.ext hx02
        have hM2 := hM0.ext hx02
        obtain ⟨d0, d1, d2⟩ := hM2.cells (s := { s with n := n' }) HV.out HMM.out
        obtain ⟨-, x1, -⟩ := hM0.cells (s := { s with n := n' }) HV.out HMM.out
        obtain ⟨-, y1, -⟩ := (hM0.ext hx01).cells (s := { s with n := n' }) HV.out HMM.out
        rw [HMV.out] at d1 x1 y1
        have z1 := hM2.frozen (s := { s with n := n' }) HV.out (i * 3 + 1)
        refine detT_pure rfl (.pointer (some ⟨br, 0, none⟩)) (fun _ _ => rfl) ?_ ?_
        · rintro ρ ⟨h0, -⟩ w'
          have e0 : ρ 0 = .pointer (some ⟨br, 0, none⟩) := h0
          simp [execOp, evR, e0, go_sem]
        refine detT_pure rfl (.pointer (some ⟨br, 0, none⟩)) (fun _ _ => rfl) ?_ ?_
        · rintro ρ ⟨h41, -⟩ w'
          have e41 : ρ 41 = .pointer (some ⟨br, 0, none⟩) := h41
          simp [execOp, evR, e41, go_sem]
        refine detT_pure rfl (.pointer (some ⟨br, 1, none⟩)) (fun _ _ => rfl) ?_ ?_
        · rintro ρ ⟨h42, -⟩ w'
          have e42 : ρ 42 = .pointer (some ⟨br, 0, none⟩) := h42
          simp [execOp, evR, e42, go_sem]
        refine detT_read rfl (.slice (some ⟨g, 0, none⟩) n cF) (fun _ _ => rfl) ?_ ?_
        · rintro ρ ⟨h43, -⟩ c hc1 hc2
          have e43 : ρ 43 = .pointer (some ⟨br, 1, none⟩) := h43
          have hc : c = 0 ∨ c = 1 ∨ c = 2 := by have h1 : 0 ≤ c := hc1; have h2 : c ≤ 2 := hc2; omega
          rcases hc with rfl | rfl | rfl
          · rw [q0]
            have c := brw0.cell (i := 1) rfl
            simp [execOp, evR, e43, c, go_sem]
          · rw [q1]
            have c := brw1.cell (i := 1) rfl
            simp [execOp, evR, e43, c, go_sem]
          · rw [q2]
            have c := brw2.cell (i := 1) rfl
            simp [execOp, evR, e43, c, go_sem]
        refine detT_pure rfl (.int .i64 (i : Int)) (fun _ _ => rfl) ?_ ?_
        · rintro ρ ⟨h7, -⟩ w'
          have e7 : ρ 7 = .int .i64 (i : Int) := h7
          simp [execOp, evR, e7, go_sem]
        refine detT_turn rfl (.slice (some ⟨w0.heap.size, 0, none⟩) 0 0) (fun _ _ => rfl) ?_ ?_
        · rintro ρ -
          show (execOp (evR ρ) _).run Try.prog (ws 0) = .ok (.value _) (ws 1)
          rw [q0, q1]
          simp [execOp, evR, go_sem]
        refine detT_pure rfl (.pointer (some ⟨br, 0, none⟩)) (fun _ _ => rfl) ?_ ?_
        · rintro ρ ⟨h0, -⟩ w'
          have e0 : ρ 0 = .pointer (some ⟨br, 0, none⟩) := h0
          simp [execOp, evR, e0, go_sem]
        refine detT_pure rfl (.pointer (some ⟨br, 0, none⟩)) (fun _ _ => rfl) ?_ ?_
        · rintro ρ ⟨h47, -⟩ w'
          have e47 : ρ 47 = .pointer (some ⟨br, 0, none⟩) := h47
          simp [execOp, evR, e47, go_sem]
        refine detT_pure rfl (.pointer (some ⟨br, 1, none⟩)) (fun _ _ => rfl) ?_ ?_
        · rintro ρ ⟨h48, -⟩ w'
          have e48 : ρ 48 = .pointer (some ⟨br, 0, none⟩) := h48
          simp [execOp, evR, e48, go_sem]
        refine detT_read rfl (.slice (some ⟨g, 0, none⟩) n cF) (fun _ _ => rfl) ?_ ?_
        · rintro ρ ⟨h49, -⟩ c hc1 hc2
          have e49 : ρ 49 = .pointer (some ⟨br, 1, none⟩) := h49
          have hc : c = 0 ∨ c = 1 ∨ c = 2 := by have h1 : 0 ≤ c := hc1; have h2 : c ≤ 2 := hc2; omega
          rcases hc with rfl | rfl | rfl
          · rw [q0]
            have c := brw0.cell (i := 1) rfl
            simp [execOp, evR, e49, c, go_sem]
          · rw [q1]
            have c := brw1.cell (i := 1) rfl
            simp [execOp, evR, e49, c, go_sem]
          · rw [q2]
            have c := brw2.cell (i := 1) rfl
            simp [execOp, evR, e49, c, go_sem]
        refine detT_pure rfl (.int .i64 (i : Int)) (fun _ _ => rfl) ?_ ?_
        · rintro ρ ⟨h7, -⟩ w'
          have e7 : ρ 7 = .int .i64 (i : Int) := h7
          simp [execOp, evR, e7, go_sem]
        refine detT_pure rfl (.pointer (some ⟨g, i * 3, none⟩)) (fun _ _ => rfl) ?_ ?_
        · rintro ρ ⟨h50, h51, -⟩ w'
          have e50 : ρ 50 = .slice (some ⟨g, 0, none⟩) n cF := h50
          have e51 : ρ 51 = .int .i64 (i : Int) := h51
          exact index_at3 rfl e50 e51 (by omega)
        refine detT_pure rfl (.pointer (some ⟨g, i * 3 + 1, none⟩)) (fun _ _ => rfl) ?_ ?_
        · rintro ρ ⟨h52, -⟩ w'
          have e52 : ρ 52 = .pointer (some ⟨g, i * 3, none⟩) := h52
          simp [execOp, evR, e52, go_sem]
        refine detT_read rfl (.slice A1 m.b.length c1) (fun _ _ => rfl) ?_ ?_
        · rintro ρ ⟨h53, -⟩ c hc1 hc2
          have e53 : ρ 53 = .pointer (some ⟨g, i * 3 + 1, none⟩) := h53
          have hc : c = 0 ∨ c = 1 ∨ c = 2 := by have h1 : 0 ≤ c := hc1; have h2 : c ≤ 2 := hc2; omega
          rcases hc with rfl | rfl | rfl
          · rw [q0]
            first
              | simp [execOp, evR, e53, x1, go_sem]; done
              | simp [execOp, evR, e53, y1, go_sem]; done
              | simp [execOp, evR, e53, d1, go_sem]; done
          · rw [q1]
            first
              | simp [execOp, evR, e53, x1, go_sem]; done
              | simp [execOp, evR, e53, y1, go_sem]; done
              | simp [execOp, evR, e53, d1, go_sem]; done
          · rw [q2]
            first
              | simp [execOp, evR, e53, x1, go_sem]; done
              | simp [execOp, evR, e53, y1, go_sem]; done
              | simp [execOp, evR, e53, d1, go_sem]; done
        refine detT_pure rfl (.int .i64 (N : Int)) (fun _ _ => rfl) ?_ ?_
        · rintro ρ ⟨h2, -⟩ w'
          have e2 : ρ 2 = .int .i64 (N : Int) := h2
          simp [execOp, evR, e2, go_sem]
        refine detT_pure rfl (.slice A1 N c1) (fun _ _ => rfl) ?_ ?_
        · rintro ρ ⟨h54, h55, -⟩ w'
          have e54 : ρ 54 = .slice A1 m.b.length c1 := h54
          have e55 : ρ 55 = .int .i64 (N : Int) := h55
          have q1 : (0 : Int) ≤ (N : Int) := by omega
          have q2 : (N : Int) ≤ (c1 : Int) := by omega
          simp [execOp, evR, e54, e55, q1, q2, go_sem]
        refine detT_turn rfl (.slice A3 L3 c3) (fun _ _ => rfl) ?_ ?_
        · rintro ρ ⟨h46, h56, -⟩
          have e46 : ρ 46 = .slice (some ⟨w0.heap.size, 0, none⟩) 0 0 := h46
          have e56 : ρ 56 = .slice A1 N c1 := h56
          show (execOp (evR ρ) _).run Try.prog (ws 1) = .ok (.value _) (ws 2)
          rw [q1, q2]
          simp only [execOp, resolve, invoke, builtin, evR, List.map_toArray, List.map_cons, List.map_nil, e46, e56, Sem.run_bind, Sem.run_pure, Result.andThen_ok, hrun]
        refine detT_pure rfl (.pointer (some ⟨g, i * 3, none⟩)) (fun _ _ => rfl) ?_ ?_
        · rintro ρ ⟨h44, h45, -⟩ w'
          have e44 : ρ 44 = .slice (some ⟨g, 0, none⟩) n cF := h44
          have e45 : ρ 45 = .int .i64 (i : Int) := h45
          exact index_at3 rfl e44 e45 (by omega)
        refine detT_pure rfl (.pointer (some ⟨g, i * 3 + 1, none⟩)) (fun _ _ => rfl) ?_ ?_
        · rintro ρ ⟨h58, -⟩ w'
          have e58 : ρ 58 = .pointer (some ⟨g, i * 3, none⟩) := h58
          simp [execOp, evR, e58, go_sem]
        refine detT_store rfl (fun _ _ => rfl) ?_ ?_
        · rintro ρ ⟨h59, h57, -⟩
          have e59 : ρ 59 = .pointer (some ⟨g, i * 3 + 1, none⟩) := h59
          have e57 : ρ 57 = .slice A3 L3 c3 := h57
          show (execOp (evR ρ) _).run Try.prog (ws 2) = .ok .skip (ws 3)
          rw [q2, q3]
          simp [execOp, evR, e59, e57, d1, z1, go_sem]
        simp only [DetT, applyV, Act.put, List.setIfInBounds_toArray, List.set_cons_zero, List.set_cons_succ]
        rw [q3]
        have hzz : z ≤ w0.heap.size := Nat.le_trans hz (Nat.le_trans HS.out.kb.size hext.size)
        have hbn : BsT z W2 (.slice A3 L3 c3) (m.b.take N) := ⟨hown'.bs, fun j hj => ⟨Nat.le_trans hzz ((BsT.of_owb hown').typed j hj).1, ((BsT.of_owb hown').typed j hj).2⟩⟩
        have hnew : ∀ j, (Value.slice A3 L3 c3).ownBlock = some j → w0.heap.size ≤ j := fun j hj => ((BsT.of_owb hown').typed j hj).1
        have a1 := hM2.fput (i := i) (m := m) (m' := { m with v := .slice A3 L3 c3, b := m.b.take N }) (r' := { r.tick with fs := (s.ms.set i { m with v := .slice A3 L3 c3, b := m.b.take N }).map RFil.fil }) HV.out HMM.out 1 (.slice A3 L3 c3) (rcells_set1 _ _ HMM.out) hbn rfl rfl rfl
        have HM3 := Lib.hid a1
        have hil2 : i < s.ms.length := (List.getElem?_eq_some_iff.1 HMM.out).1
        have HG2 := Lib.hid (show (s.ms.set i ({ m with v := .slice A3 L3 c3, b := m.b.take N } : RFil))[i]? = some { m with v := .slice A3 L3 c3, b := m.b.take N } by rw [List.getElem?_set_self hil2])
        have HX2 := Lib.hid (hext.trans hx02)
        have HNEW := Lib.hid hnew
        have HE0 := Lib.hid (Nat.le_trans HS.out.kb.size hext.size)
        have kk3 : (W2.setCell ⟨g, i * 3 + 1, none⟩ (.slice A3 L3 c3)).cell? ⟨br, 1, none⟩ = some (.slice (some ⟨g, 0, none⟩) n cF) := by
          have := a1.str.blk.cell (i := 1) rfl
          rw [show (({ s with n := n', ms := s.ms.set i { m with v := .slice A3 L3 c3, b := m.b.take N } } : RSt)).v = s.v from rfl, HV.out] at this
          exact this
        clear a1 hbn hnew hown' hown hrun hgrow brw0 brw1 brw2 hM2 hM0 d0 d1 d2 x1 y1 z1 q0 q1 q2 q3 hx01 hx02 hzz kk1 ws hsz
        go_wp2_with fail
        generalize hW3 : W2.setCell ⟨g, i * 3 + 1, none⟩ (.slice A3 L3 c3) = W3 at *
        have HW3 := Lib.hid hW3
        have HX3 := Lib.hid hext
        clear hW3 hext
        refine wp_region_turns 1 [(0, 0, false), (0, 0, false), (0, 0, false), (0, 0, false), (0, 0, false), (0, 0, false), (0, 0, false), (0, 0, false), (0, 0, false), (0, 0, false), (0, 0, false), (0, 0, false), (0, 0, false), (0, 0, false), (0, 0, false), (0, 1, false), (0, 0, false), (0, 0, true)] (fun w0 c => match c with | 0 => w0 | _ => w0.setCell ⟨g, i * 3 + 2, none⟩ (.int .i64 ((min m.sure N : Nat) : Int))) (by kernel_rfl) (by kernel_rfl) (by kernel_rfl) (fun _ => rfl) ?_
        intro w0 ws hext hsz hws
        have q0 : ws 0 = w0 := hws 0
        have q1 : ws 1 = w0.setCell ⟨g, i * 3 + 2, none⟩ (.int .i64 ((min m.sure N : Nat) : Int)) := hws 1
        clear hws
        have hM0 := HM3.out.ext hext
        have brw0 := hM0.str.blk
        simp only [rstr, HV.out] at brw0
        obtain ⟨d0, d1, d2⟩ := hM0.cells (s := { s with n := n', ms := s.ms.set i { m with v := .slice A3 L3 c3, b := m.b.take N } }) HV.out HG2.out
        have z2 := hM0.frozen (s := { s with n := n', ms := s.ms.set i { m with v := .slice A3 L3 c3, b := m.b.take N } }) HV.out (i * 3 + 2)
        refine detT_pure rfl (.pointer (some ⟨br, 0, none⟩)) (fun _ _ => rfl) ?_ ?_
        · rintro ρ ⟨h0, -⟩ w'
          have e0 : ρ 0 = .pointer (some ⟨br, 0, none⟩) := h0
          simp [execOp, evR, e0, go_sem]
        refine detT_pure rfl (.pointer (some ⟨br, 0, none⟩)) (fun _ _ => rfl) ?_ ?_
        · rintro ρ ⟨h60, -⟩ w'
          have e60 : ρ 60 = .pointer (some ⟨br, 0, none⟩) := h60
          simp [execOp, evR, e60, go_sem]
        refine detT_pure rfl (.pointer (some ⟨br, 1, none⟩)) (fun _ _ => rfl) ?_ ?_
        · rintro ρ ⟨h61, -⟩ w'
          have e61 : ρ 61 = .pointer (some ⟨br, 0, none⟩) := h61
          simp [execOp, evR, e61, go_sem]
        refine detT_read rfl (.slice (some ⟨g, 0, none⟩) n cF) (fun _ _ => rfl) ?_ ?_
        · rintro ρ ⟨h62, -⟩ c hc1 hc2
          have e62 : ρ 62 = .pointer (some ⟨br, 1, none⟩) := h62
          have hc : c = 0 := by have h1 : 0 ≤ c := hc1; have h2 : c ≤ 0 := hc2; omega
          rcases hc with rfl
          · rw [q0]
            have c := brw0.cell (i := 1) rfl
            simp [execOp, evR, e62, c, go_sem]
        refine detT_pure rfl (.int .i64 (i : Int)) (fun _ _ => rfl) ?_ ?_
        · rintro ρ ⟨h7, -⟩ w'
          have e7 : ρ 7 = .int .i64 (i : Int) := h7
          simp [execOp, evR, e7, go_sem]
        refine detT_pure rfl (.pointer (some ⟨br, 0, none⟩)) (fun _ _ => rfl) ?_ ?_
        · rintro ρ ⟨h0, -⟩ w'
          have e0 : ρ 0 = .pointer (some ⟨br, 0, none⟩) := h0
          simp [execOp, evR, e0, go_sem]
        refine detT_pure rfl (.pointer (some ⟨br, 0, none⟩)) (fun _ _ => rfl) ?_ ?_
        · rintro ρ ⟨h65, -⟩ w'
          have e65 : ρ 65 = .pointer (some ⟨br, 0, none⟩) := h65
          simp [execOp, evR, e65, go_sem]
        refine detT_pure rfl (.pointer (some ⟨br, 1, none⟩)) (fun _ _ => rfl) ?_ ?_
        · rintro ρ ⟨h66, -⟩ w'
          have e66 : ρ 66 = .pointer (some ⟨br, 0, none⟩) := h66
          simp [execOp, evR, e66, go_sem]
        refine detT_read rfl (.slice (some ⟨g, 0, none⟩) n cF) (fun _ _ => rfl) ?_ ?_
        · rintro ρ ⟨h67, -⟩ c hc1 hc2
          have e67 : ρ 67 = .pointer (some ⟨br, 1, none⟩) := h67
          have hc : c = 0 := by have h1 : 0 ≤ c := hc1; have h2 : c ≤ 0 := hc2; omega
          rcases hc with rfl
          · rw [q0]
            have c := brw0.cell (i := 1) rfl
            simp [execOp, evR, e67, c, go_sem]
        refine detT_pure rfl (.int .i64 (i : Int)) (fun _ _ => rfl) ?_ ?_
        · rintro ρ ⟨h7, -⟩ w'
          have e7 : ρ 7 = .int .i64 (i : Int) := h7
          simp [execOp, evR, e7, go_sem]
        refine detT_pure rfl (.pointer (some ⟨g, i * 3, none⟩)) (fun _ _ => rfl) ?_ ?_
        · rintro ρ ⟨h68, h69, -⟩ w'
          have e68 : ρ 68 = .slice (some ⟨g, 0, none⟩) n cF := h68
          have e69 : ρ 69 = .int .i64 (i : Int) := h69
          exact index_at3 rfl e68 e69 (by omega)
        refine detT_pure rfl (.pointer (some ⟨g, i * 3 + 2, none⟩)) (fun _ _ => rfl) ?_ ?_
        · rintro ρ ⟨h70, -⟩ w'
          have e70 : ρ 70 = .pointer (some ⟨g, i * 3, none⟩) := h70
          simp [execOp, evR, e70, go_sem]
        refine detT_read rfl (.int .i64 (m.sure : Int)) (fun _ _ => rfl) ?_ ?_
        · rintro ρ ⟨h71, -⟩ c hc1 hc2
          have e71 : ρ 71 = .pointer (some ⟨g, i * 3 + 2, none⟩) := h71
          have hc : c = 0 := by have h1 : 0 ≤ c := hc1; have h2 : c ≤ 0 := hc2; omega
          rcases hc with rfl
          · rw [q0]
            simp [execOp, evR, e71, d2, go_sem]
        refine detT_pure rfl (.int .i64 (N : Int)) (fun _ _ => rfl) ?_ ?_
        · rintro ρ ⟨h2, -⟩ w'
          have e2 : ρ 2 = .int .i64 (N : Int) := h2
          simp [execOp, evR, e2, go_sem]
        refine detT_pure rfl (.int .i64 ((min m.sure N : Nat) : Int)) (fun _ _ => rfl) ?_ ?_
        · rintro ρ ⟨h72, h73, -⟩ w'
          have e72 : ρ 72 = .int .i64 (m.sure : Int) := h72
          have e73 : ρ 73 = .int .i64 (N : Int) := h73
          simp [execOp, resolve, invoke, builtin, evR, e72, e73, run_min_int2, go_sem]
          split <;> omega
        refine detT_pure rfl (.pointer (some ⟨g, i * 3, none⟩)) (fun _ _ => rfl) ?_ ?_
        · rintro ρ ⟨h63, h64, -⟩ w'
          have e63 : ρ 63 = .slice (some ⟨g, 0, none⟩) n cF := h63
          have e64 : ρ 64 = .int .i64 (i : Int) := h64
          exact index_at3 rfl e63 e64 (by omega)
        refine detT_pure rfl (.pointer (some ⟨g, i * 3 + 2, none⟩)) (fun _ _ => rfl) ?_ ?_
        · rintro ρ ⟨h75, -⟩ w'
          have e75 : ρ 75 = .pointer (some ⟨g, i * 3, none⟩) := h75
          simp [execOp, evR, e75, go_sem]
        refine detT_store rfl (fun _ _ => rfl) ?_ ?_
        · rintro ρ ⟨h76, h74, -⟩
          have e76 : ρ 76 = .pointer (some ⟨g, i * 3 + 2, none⟩) := h76
          have e74 : ρ 74 = .int .i64 ((min m.sure N : Nat) : Int) := h74
          show (execOp (evR ρ) _).run Try.prog (ws 0) = .ok .skip (ws 1)
          rw [q0, q1]
          simp [execOp, evR, e76, e74, d2, z2, go_sem]
        simp only [DetT, applyV, Act.put, List.setIfInBounds_toArray, List.set_cons_zero, List.set_cons_succ]
        rw [q1]
        have hfin : ((s.ms.set i ({ m with v := .slice A3 L3 c3, b := m.b.take N } : RFil)).set i { m with v := .slice A3 L3 c3, b := m.b.take N, sure := min m.sure N }).map RFil.fil = ((fun d : Dk => d.upd name fun f => ⟨f.name, f.b.take ((N : Int)).toNat, min f.sure ((N : Int)).toNat⟩) r.tick).fs := by
          rw [List.set_set]
          exact set_fil (fs := r.tick.fs) (g := fun f => ⟨f.name, f.b.take ((N : Int)).toNat, min f.sure ((N : Int)).toNat⟩) HS.out.rk.fs HMM.out (by rw [tick_fs]; exact HFIE.out) (by rw [tick_fs]; exact HOK.out.apart) rfl
        have a2 := hM0.fput (i := i) (m := { m with v := .slice A3 L3 c3, b := m.b.take N }) (m' := { m with v := .slice A3 L3 c3, b := m.b.take N, sure := min m.sure N }) (r' := (fun d : Dk => d.upd name fun f => ⟨f.name, f.b.take ((N : Int)).toNat, min f.sure ((N : Int)).toNat⟩) r.tick) HV.out HG2.out 2 (.int .i64 ((min m.sure N : Nat) : Int)) (rcells_set2 (i := i) (m := { m with v := .slice A3 L3 c3, b := m.b.take N }) (min m.sure N) HG2.out) (hM0.bytes { m with v := .slice A3 L3 c3, b := m.b.take N } (List.mem_of_getElem? HG2.out)) rfl rfl hfin
        have hgv : s.v.ownBlock = some g := by rw [HV.out]; rfl
        have hkb := ((((HS.out.kb.trans (Kb.of_ext (fp := rall br s) HX2.out) (fun _ h => .inl h)).trans (Kb.set (rall br s) W2 g (i * 3 + 1) (.slice A3 L3 c3) (.inr (.inl hgv))) (fun _ h => .inl h)).trans (by rw [HW3.out]; exact Kb.of_ext (fp := rall br s) hext) (fun _ h => .inl h)).trans (Kb.set (rall br s) w0 g (i * 3 + 2) (.int .i64 ((min m.sure N : Nat) : Int)) (.inr (.inl hgv))) (fun _ h => .inl h))
        have HX := Lib.hid (⟨a2, hkb, fun k hk => by
          rw [List.set_set] at hk
          rcases hk with rfl | hk | ⟨x, hx, hk⟩
          · exact .inl (.inl rfl)
          · exact .inl (.inr (.inl hk))
          · rcases List.mem_or_eq_of_mem_set hx with hx | rfl
            · exact .inl (.inr (.inr ⟨x, hx, hk⟩))
            · exact .inr (Nat.le_trans HE0.out (HNEW.out k hk))⟩ : RkS z _ _ br s r _ ((fun d : Dk => d.upd name fun f => ⟨f.name, f.b.take ((N : Int)).toNat, min f.sure ((N : Int)).toNat⟩) r.tick))
        clear a2 hkb hfin brw0 d0 d1 d2 z2 hM0 kk3 q0 q1
        go_wp2_with fail
        go_ret
        exact RkPost.acted HD.out HX.out
end Go.Proofs.Ytkejoiknnigllaa
