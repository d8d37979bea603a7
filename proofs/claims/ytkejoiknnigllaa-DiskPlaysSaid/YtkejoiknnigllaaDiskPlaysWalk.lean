/-
  Layer 15: the statement of DiskPlays: the walk.
-/
import Derived.Test.YtkejoiknnigllaaDkActs
namespace Go.Proofs.Ytkejoiknnigllaa
open Go Go.RowKit Mono
set_option linter.unusedVariables false
set_option linter.unusedSimpArgs false
set_option maxRecDepth 100000
set_option maxHeartbeats 2000000

theorem diskPlays_walk (room : Int) (v : Value) (l : List (Act × Value)) (name : List UInt8) (W : World) (hl : As W v l) (hn : name.length ≤ maxLen) :
    Calls Try.prog 5 #[.int .i64 room, v, .string ⟨name.toArray⟩] W fun e w' => e = .returned (.bool true) ∧ Ext W w' := by
  obtain ⟨A, c, rfl, g1, g2, g4⟩ := hl.at_
  have H4 := Lib.hid g4
  have HL := Lib.hid hl
  have hsz := strV_size name
  unfold maxLen at g2
  have hnm : (name.length : Int) ≤ 9223372036854775807 := by unfold maxLen at hn; omega
  have HG1 := Lib.hid (fun w => dkGood_any name w hn)
  have HG2 := Lib.hid (fun w => refDkGood_any name w hn)
  unfold strV at HG1 HG2
  clear g4 hl hn
  by_cases hr : room < 0 ∨ 1073741824 < room
  · have HD := Lib.hid (dkNew_bad room W hr)
    have HR := Lib.hid (rnew_bad room W hr)
    have HLV := Lib.hid (lives_any W)
    clear hr
    by_cases hnl : name.length < 1000
    · go_enter Try.func5, Try.ntmps5
      go_wp2_with fail
      refine HD.out.mono ?_
      rintro e w1 ⟨rfl, rfl⟩
      go_wp2_with fail
      refine HR.out.mono ?_
      rintro e w2 ⟨rfl, rfl⟩
      go_wp2_with fail
      refine (HG1.out _).mono ?_
      rintro e w3 ⟨rfl, rfl⟩
      go_wp2_with fail
      refine (HG2.out _).mono ?_
      rintro e w4 ⟨rfl, rfl⟩
      cases dname name
      all_goals
        go_wp2_with fail
        refine HLV.out.mono ?_
        rintro e w5 ⟨rfl, hx⟩
        go_wp2_with fail
        go_ret
        exact ⟨rfl, hx⟩
    · go_enter Try.func5, Try.ntmps5
      go_wp2_with fail
      refine HD.out.mono ?_
      rintro e w1 ⟨rfl, rfl⟩
      go_wp2_with fail
      refine HR.out.mono ?_
      rintro e w2 ⟨rfl, rfl⟩
      go_wp2_with fail
      refine HLV.out.mono ?_
      rintro e w5 ⟨rfl, hx⟩
      go_wp2_with fail
      go_ret
      exact ⟨rfl, hx⟩
  · obtain ⟨rm, rfl⟩ : ∃ n : Nat, room = (n : Int) := ⟨room.toNat, by omega⟩
    have hrm : rm ≤ 1073741824 := by omega
    have HRM := Lib.hid hrm
    have HD := Lib.hid (dkNew_any rm W hrm)
    have HR := Lib.hid (fun w => rnew_any rm w hrm)
    clear hr hrm
    go_enter Try.func5, Try.ntmps5
    go_wp2_with fail
    refine HD.out.mono ?_
    rintro e w1 ⟨rfl, hx1, hd1⟩
    go_wp2_with fail
    refine (HR.out _).mono ?_
    rintro e w2 ⟨rfl, hx2, hr2⟩
    have HP2 := Lib.hid (pair_new hd1 hx1 hx2 hr2)
    have HX2 := Lib.hid (hx1.trans hx2)
    obtain ⟨bd, hbd⟩ : ∃ b, b = W.heap.size + 1 := ⟨_, rfl⟩
    obtain ⟨br, hbr⟩ : ∃ b, b = w1.heap.size := ⟨_, rfl⟩
    rw [← hbd, ← hbr] at HP2 ⊢
    clear hd1 hx1 hx2 hr2 hbd hbr HD HR
    have HLT := Lib.hid (light_any _ l w2 (HL.out.ext HX2.out))
    by_cases hnl : name.length < 1000
    · go_wp2_with fail
      refine (HG1.out _).mono ?_
      rintro e w3 ⟨rfl, rfl⟩
      go_wp2_with fail
      refine (HG2.out _).mono ?_
      rintro e w4 ⟨rfl, rfl⟩
      cases dname name
      all_goals
        go_wp2_with fail
        refine HLT.out.mono ?_
        rintro e w5 ⟨⟨q, rfl, hq⟩, hx5⟩
        have HX5 := Lib.hid (HX2.out.trans hx5)
        have HP5 := Lib.hid (HP2.out.ext hx5)
        clear hx5
        cases q
        · have HLV := Lib.hid (lives_any w5)
          go_wp2_with fail
          refine HLV.out.mono ?_
          rintro e w6 ⟨rfl, hx⟩
          go_wp2_with fail
          go_ret
          exact ⟨rfl, HX5.out.trans hx⟩
        · have HLI := Lib.hid (hq rfl)
          clear hq
          go_wp2_with fail
          go_loopw [46] (fun i wr => ∃ k : Nat, k ≤ l.length ∧ i = .int .i64 k ∧ PairZ W.heap.size bd br (actsP (l.take k) (Dk.fresh rm)) wr ∧ Ext W wr) (fun i _ => l.length - (intOf i).toNat)
          case atStart => exact ⟨0, by omega, rfl, HP5.out, HX5.out⟩
          case round =>
            obtain ⟨k, hk, rfl, hp, hx⟩ := hrel
            have HP := Lib.hid hp
            have HX := Lib.hid hx
            clear hp
            by_cases hkl : k < l.length
            · obtain ⟨b, off, rfl, hb, hc⟩ := H4.out (by omega)
              obtain ⟨⟨a, x⟩, hget⟩ : ∃ p, l[k]? = some p := ⟨_, List.getElem?_eq_getElem hkl⟩
              have cc := hc k _ hget
              have c0 : wr.cell? ⟨b, off + k * 5, none⟩ = some (.int .i64 a.kind) := by have := (hx.cell (p := ⟨b, off + (k * 5 + 0), none⟩) hb).trans (cc 0 _ rfl); rwa [← Nat.add_assoc] at this
              have c1 : wr.cell? ⟨b, off + k * 5 + 1, none⟩ = some (strV a.name) := by have := (hx.cell (p := ⟨b, off + (k * 5 + 1), none⟩) hb).trans (cc 1 _ rfl); rwa [← Nat.add_assoc] at this
              have c2 : wr.cell? ⟨b, off + k * 5 + 2, none⟩ = some x := by have := (hx.cell (p := ⟨b, off + (k * 5 + 2), none⟩) hb).trans (cc 2 _ rfl); rwa [← Nat.add_assoc] at this
              have c3 : wr.cell? ⟨b, off + k * 5 + 3, none⟩ = some (.int .i64 a.n) := by have := (hx.cell (p := ⟨b, off + (k * 5 + 3), none⟩) hb).trans (cc 3 _ rfl); rwa [← Nat.add_assoc] at this
              have c4 : wr.cell? ⟨b, off + k * 5 + 4, none⟩ = some (.int .i64 a.keep) := by have := (hx.cell (p := ⟨b, off + (k * 5 + 4), none⟩) hb).trans (cc 4 _ rfl); rwa [← Nat.add_assoc] at this
              have hin := HL.out.in_ _ (List.mem_of_getElem? hget)
              dsimp only at hin
              obtain ⟨Ad, cd, hv, _, _, _, _⟩ := hin.1.open_
              subst hv
              have HIN := Lib.hid hin
              have HGET := Lib.hid hget
              have hstep := actsP_step hget (Dk.fresh rm)
              dsimp only at hstep
              have HLA := HLI.out.2 _ (List.mem_of_getElem? hget)
              dsimp only at HLA
              obtain ⟨d, hd⟩ : ∃ d, d = actsP (l.take k) (Dk.fresh rm) := ⟨_, rfl⟩
              have hok : d.Ok := hd ▸ actsP_ok (fresh_ok HRM.out)
              have hsm : d.SmallC (l.take k).length := hd ▸ actsP_small (fresh_small rm) (fun p hp => by have := (HL.out.in_ p (List.mem_of_mem_take hp)).2.2.2.1.2; omega)
              rw [← hd] at HP hstep
              have HDO := Lib.hid (do_box HP.out (ext_alloc wr (.cells #[.int .i64 a.kind, .string ⟨a.name.toArray⟩, .slice Ad a.data.length cd, .int .i64 a.n, .int .i64 a.keep] 44)) hok hsm (by have := HLI.out.1; rw [List.length_take]; omega) hx.size a hin.2.1 HLA.2 (hin.1.ext (hx.trans (ext_alloc wr (.cells #[.int .i64 a.kind, .string ⟨a.name.toArray⟩, .slice Ad a.data.length cd, .int .i64 a.n, .int .i64 a.keep] 44)))) (data_low hin.1))
              have HOK := Lib.hid (actD_ok hok a)
              obtain ⟨d', hd'⟩ : ∃ d', d' = actD d a := ⟨_, rfl⟩
              rw [← hd'] at HDO HOK hstep
              have HSTEP := Lib.hid hstep
              have HNL := Lib.hid hin.2.1
              unfold strV at HDO
              clear hc cc hin hget hx hstep hok hsm hd hd' HLA
              unfold strV at c1
              go_wp2_with fail
              refine HDO.out.mono ?_
              rintro e w7 ⟨rfl, hk7, hp7⟩
              have hbox := (BlkT.new wr #[.int .i64 a.kind, .string ⟨a.name.toArray⟩, .slice Ad a.data.length cd, .int .i64 a.n, .int .i64 a.keep] 44).kb hk7 (fun h => by have := h.2; omega)
              have HX7 := Lib.hid (hk7.ext (HX.out.trans (ext_alloc wr (.cells #[.int .i64 a.kind, .string ⟨a.name.toArray⟩, .slice Ad a.data.length cd, .int .i64 a.n, .int .i64 a.keep] 44))) (fun b hb => hb.1))
              have HBOX := Lib.hid hbox
              have HP7 := Lib.hid hp7
              have HSM := Lib.hid (same_any hp7 HOK.out)
              clear c0 c1 c2 c3 c4 hbox hk7 hp7 HDO
              go_wp2_with fail
              refine HSM.out.mono ?_
              rintro e w8 ⟨rfl, hx8⟩
              have HX8 := Lib.hid (HX7.out.trans hx8)
              have HP8 := Lib.hid (HP7.out.ext hx8)
              have HBOX8 := Lib.hid (HBOX.out.ext hx8)
              have k1 := HBOX8.out.blk.cell (i := 1) rfl
              obtain ⟨bm, pl, ms, s, hdk, hrk, -⟩ := HP8.out
              have HRK := Lib.hid hrk
              have HRD := Lib.hid (read_any hdk HOK.out a.name HNL.out)
              unfold strV at HRD
              clear hx8 hdk hrk
              go_wp2_with fail
              refine HRD.out.mono ?_
              rintro e w9 ⟨vb, rfl, hob, hx9⟩
              have HX9 := Lib.hid (HX8.out.trans hx9)
              have HP9 := Lib.hid (HP8.out.ext hx9)
              have k2 := (HBOX8.out.ext hx9).blk.cell (i := 1) rfl
              have HRR := Lib.hid (rread_any (HRK.out.ext hx9) HOK.out a.name)
              unfold strV at HRR
              obtain ⟨Ab, cb, rfl, b1, b2, -, -⟩ := hob.bs.open_
              have HOB := Lib.hid hob
              clear hob hx9 k1
              go_wp2_with fail
              refine HRR.out.mono ?_
              rintro e w10 ⟨vc, rfl, hoc, hx10⟩
              have HX10 := Lib.hid (HX9.out.trans hx10)
              have HP10 := Lib.hid (HP9.out.ext hx10)
              have cv1 := (HOB.out.ext hx10).bs.str (P := Try.prog) 23 9 5 Try.underlying23 Try.underlying5 Try.underlying9
              have cv2 := hoc.bs.str (P := Try.prog) 23 9 5 Try.underlying23 Try.underlying5 Try.underlying9
              have hq : ((dRead d' a.name).1 != (dRead d' a.name).1) = false := by simp
              have hq2 : ((((dRead d' a.name).2 : Nat) : Int) != (((dRead d' a.name).2 : Nat) : Int)) = false := by simp
              obtain ⟨bs, hbs⟩ : ∃ bs, bs = (dRead d' a.name).1 := ⟨_, rfl⟩
              obtain ⟨er, her⟩ : ∃ er : Int, er = (((dRead d' a.name).2 : Nat) : Int) := ⟨_, rfl⟩
              rw [← hbs] at cv1 cv2 hq ⊢
              rw [← her] at hq2 ⊢
              clear hoc hx10 hbs her HRD HRR HOB k2 b1 b2
              go_wp2_with fail
              clear cv1 cv2 hq hq2
              go_roundw
              case rel => exact ⟨k + 1, by omega, by simp, HSTEP.out ▸ HP10.out, HX10.out⟩
              case measure => simp [intOf]; omega
            · obtain rfl : k = l.length := by omega
              have HLV := Lib.hid (lives_any wr)
              go_wp2_with fail
              refine HLV.out.mono ?_
              rintro e w6 ⟨rfl, hx6⟩
              go_wp2_with fail
              go_ret
              exact ⟨rfl, HX.out.trans hx6⟩
    · go_wp2_with fail
      refine HLT.out.mono ?_
      rintro e w5 ⟨⟨q, rfl, hq⟩, hx5⟩
      have HX5 := Lib.hid (HX2.out.trans hx5)
      have HP5 := Lib.hid (HP2.out.ext hx5)
      clear hx5
      cases q
      · have HLV := Lib.hid (lives_any w5)
        go_wp2_with fail
        refine HLV.out.mono ?_
        rintro e w6 ⟨rfl, hx⟩
        go_wp2_with fail
        go_ret
        exact ⟨rfl, HX5.out.trans hx⟩
      · have HLI := Lib.hid (hq rfl)
        clear hq
        go_wp2_with fail
        go_loopw [46] (fun i wr => ∃ k : Nat, k ≤ l.length ∧ i = .int .i64 k ∧ PairZ W.heap.size bd br (actsP (l.take k) (Dk.fresh rm)) wr ∧ Ext W wr) (fun i _ => l.length - (intOf i).toNat)
        case atStart => exact ⟨0, by omega, rfl, HP5.out, HX5.out⟩
        case round =>
          obtain ⟨k, hk, rfl, hp, hx⟩ := hrel
          have HP := Lib.hid hp
          have HX := Lib.hid hx
          clear hp
          by_cases hkl : k < l.length
          · obtain ⟨b, off, rfl, hb, hc⟩ := H4.out (by omega)
            obtain ⟨⟨a, x⟩, hget⟩ : ∃ p, l[k]? = some p := ⟨_, List.getElem?_eq_getElem hkl⟩
            have cc := hc k _ hget
            have c0 : wr.cell? ⟨b, off + k * 5, none⟩ = some (.int .i64 a.kind) := by have := (hx.cell (p := ⟨b, off + (k * 5 + 0), none⟩) hb).trans (cc 0 _ rfl); rwa [← Nat.add_assoc] at this
            have c1 : wr.cell? ⟨b, off + k * 5 + 1, none⟩ = some (strV a.name) := by have := (hx.cell (p := ⟨b, off + (k * 5 + 1), none⟩) hb).trans (cc 1 _ rfl); rwa [← Nat.add_assoc] at this
            have c2 : wr.cell? ⟨b, off + k * 5 + 2, none⟩ = some x := by have := (hx.cell (p := ⟨b, off + (k * 5 + 2), none⟩) hb).trans (cc 2 _ rfl); rwa [← Nat.add_assoc] at this
            have c3 : wr.cell? ⟨b, off + k * 5 + 3, none⟩ = some (.int .i64 a.n) := by have := (hx.cell (p := ⟨b, off + (k * 5 + 3), none⟩) hb).trans (cc 3 _ rfl); rwa [← Nat.add_assoc] at this
            have c4 : wr.cell? ⟨b, off + k * 5 + 4, none⟩ = some (.int .i64 a.keep) := by have := (hx.cell (p := ⟨b, off + (k * 5 + 4), none⟩) hb).trans (cc 4 _ rfl); rwa [← Nat.add_assoc] at this
            have hin := HL.out.in_ _ (List.mem_of_getElem? hget)
            dsimp only at hin
            obtain ⟨Ad, cd, hv, _, _, _, _⟩ := hin.1.open_
            subst hv
            have HIN := Lib.hid hin
            have HGET := Lib.hid hget
            have hstep := actsP_step hget (Dk.fresh rm)
            dsimp only at hstep
            have HLA := HLI.out.2 _ (List.mem_of_getElem? hget)
            dsimp only at HLA
            obtain ⟨d, hd⟩ : ∃ d, d = actsP (l.take k) (Dk.fresh rm) := ⟨_, rfl⟩
            have hok : d.Ok := hd ▸ actsP_ok (fresh_ok HRM.out)
            have hsm : d.SmallC (l.take k).length := hd ▸ actsP_small (fresh_small rm) (fun p hp => by have := (HL.out.in_ p (List.mem_of_mem_take hp)).2.2.2.1.2; omega)
            rw [← hd] at HP hstep
            have HDO := Lib.hid (do_box HP.out (ext_alloc wr (.cells #[.int .i64 a.kind, .string ⟨a.name.toArray⟩, .slice Ad a.data.length cd, .int .i64 a.n, .int .i64 a.keep] 44)) hok hsm (by have := HLI.out.1; rw [List.length_take]; omega) hx.size a hin.2.1 HLA.2 (hin.1.ext (hx.trans (ext_alloc wr (.cells #[.int .i64 a.kind, .string ⟨a.name.toArray⟩, .slice Ad a.data.length cd, .int .i64 a.n, .int .i64 a.keep] 44)))) (data_low hin.1))
            have HOK := Lib.hid (actD_ok hok a)
            obtain ⟨d', hd'⟩ : ∃ d', d' = actD d a := ⟨_, rfl⟩
            rw [← hd'] at HDO HOK hstep
            have HSTEP := Lib.hid hstep
            have HNL := Lib.hid hin.2.1
            unfold strV at HDO
            clear hc cc hin hget hx hstep hok hsm hd hd' HLA
            unfold strV at c1
            go_wp2_with fail
            refine HDO.out.mono ?_
            rintro e w7 ⟨rfl, hk7, hp7⟩
            have hbox := (BlkT.new wr #[.int .i64 a.kind, .string ⟨a.name.toArray⟩, .slice Ad a.data.length cd, .int .i64 a.n, .int .i64 a.keep] 44).kb hk7 (fun h => by have := h.2; omega)
            have HX7 := Lib.hid (hk7.ext (HX.out.trans (ext_alloc wr (.cells #[.int .i64 a.kind, .string ⟨a.name.toArray⟩, .slice Ad a.data.length cd, .int .i64 a.n, .int .i64 a.keep] 44))) (fun b hb => hb.1))
            have HBOX := Lib.hid hbox
            have HP7 := Lib.hid hp7
            have HSM := Lib.hid (same_any hp7 HOK.out)
            clear c0 c1 c2 c3 c4 hbox hk7 hp7 HDO
            go_wp2_with fail
            refine HSM.out.mono ?_
            rintro e w8 ⟨rfl, hx8⟩
            have HX8 := Lib.hid (HX7.out.trans hx8)
            have HP8 := Lib.hid (HP7.out.ext hx8)
            have HBOX8 := Lib.hid (HBOX.out.ext hx8)
            have k1 := HBOX8.out.blk.cell (i := 1) rfl
            obtain ⟨bm, pl, ms, s, hdk, hrk, -⟩ := HP8.out
            have HRK := Lib.hid hrk
            have HRD := Lib.hid (read_any hdk HOK.out a.name HNL.out)
            unfold strV at HRD
            clear hx8 hdk hrk
            go_wp2_with fail
            refine HRD.out.mono ?_
            rintro e w9 ⟨vb, rfl, hob, hx9⟩
            have HX9 := Lib.hid (HX8.out.trans hx9)
            have HP9 := Lib.hid (HP8.out.ext hx9)
            have k2 := (HBOX8.out.ext hx9).blk.cell (i := 1) rfl
            have HRR := Lib.hid (rread_any (HRK.out.ext hx9) HOK.out a.name)
            unfold strV at HRR
            obtain ⟨Ab, cb, rfl, b1, b2, -, -⟩ := hob.bs.open_
            have HOB := Lib.hid hob
            clear hob hx9 k1
            go_wp2_with fail
            refine HRR.out.mono ?_
            rintro e w10 ⟨vc, rfl, hoc, hx10⟩
            have HX10 := Lib.hid (HX9.out.trans hx10)
            have HP10 := Lib.hid (HP9.out.ext hx10)
            have cv1 := (HOB.out.ext hx10).bs.str (P := Try.prog) 23 9 5 Try.underlying23 Try.underlying5 Try.underlying9
            have cv2 := hoc.bs.str (P := Try.prog) 23 9 5 Try.underlying23 Try.underlying5 Try.underlying9
            have hq : ((dRead d' a.name).1 != (dRead d' a.name).1) = false := by simp
            have hq2 : ((((dRead d' a.name).2 : Nat) : Int) != (((dRead d' a.name).2 : Nat) : Int)) = false := by simp
            obtain ⟨bs, hbs⟩ : ∃ bs, bs = (dRead d' a.name).1 := ⟨_, rfl⟩
            obtain ⟨er, her⟩ : ∃ er : Int, er = (((dRead d' a.name).2 : Nat) : Int) := ⟨_, rfl⟩
            rw [← hbs] at cv1 cv2 hq ⊢
            rw [← her] at hq2 ⊢
            clear hoc hx10 hbs her HRD HRR HOB k2 b1 b2
            go_wp2_with fail
            clear cv1 cv2 hq hq2
            go_roundw
            case rel => exact ⟨k + 1, by omega, by simp, HSTEP.out ▸ HP10.out, HX10.out⟩
            case measure => simp [intOf]; omega
          · obtain rfl : k = l.length := by omega
            have HLV := Lib.hid (lives_any wr)
            go_wp2_with fail
            refine HLV.out.mono ?_
            rintro e w6 ⟨rfl, hx6⟩
            go_wp2_with fail
            go_ret
            exact ⟨rfl, HX.out.trans hx6⟩
end Go.Proofs.Ytkejoiknnigllaa
