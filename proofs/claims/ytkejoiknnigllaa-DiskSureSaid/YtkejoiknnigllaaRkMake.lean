/-
  Layer 15: Make of the document's disk.
-/
import Derived.Test.YtkejoiknnigllaaRkDrop
namespace Go.Proofs.Ytkejoiknnigllaa
open Go Go.RowKit Mono
set_option linter.unusedVariables false
set_option linter.unusedSimpArgs false
set_option maxRecDepth 100000
set_option maxHeartbeats 2000000
/-- A new file is put in its place. -/
def insR (x : RFil) : List RFil → List RFil
  | [] => [x]
  | m :: r => if Op.bytesLess x.name m.name = true then x :: m :: r else m :: insR x r
theorem insR_fil (x : RFil) (hb : x.b = []) (hs : x.sure = 0) : ∀ ms : List RFil, (insR x ms).map RFil.fil = insF x.name (ms.map RFil.fil)
  | [] => by simp [insR, insF, RFil.fil, hb, hs]
  | m :: r => by
    have ih := insR_fil x hb hs r
    unfold insR
    simp only [List.map_cons]
    unfold insF
    have : (RFil.fil m).name = m.name := rfl
    rw [this]
    split
    · simp [RFil.fil, hb, hs]
    · simp [ih]
theorem insR_mem {x y : RFil} : ∀ {ms : List RFil}, y ∈ insR x ms ↔ y = x ∨ y ∈ ms
  | [] => by simp [insR]
  | m :: r => by
    unfold insR
    split
    · simp
    · simp [insR_mem (ms := r)]
      constructor
      · rintro (h | h | h)
        · exact .inr (.inl h)
        · exact .inl h
        · exact .inr (.inr h)
      · rintro (h | h | h)
        · exact .inr (.inl h)
        · exact .inl h
        · exact .inr (.inr h)
theorem insR_none {x : RFil} : ∀ {l : List RFil}, (∀ m ∈ l, Op.bytesLess x.name m.name = false) → insR x l = l ++ [x]
  | [], _ => rfl
  | m :: r, h => by
    unfold insR
    rw [if_neg (by simp [h m List.mem_cons_self]), insR_none (fun y hy => h y (List.mem_cons_of_mem _ hy))]
    rfl
theorem insR_some {x m' : RFil} : ∀ {l : List RFil}, (∃ m ∈ l, Op.bytesLess x.name m.name = true) → insR x (l ++ [m']) = insR x l ++ [m']
  | [], h => by obtain ⟨m, hm, _⟩ := h; cases hm
  | m :: r, h => by
    rw [List.cons_append]
    unfold insR
    split
    · rfl
    · rename_i hn
      obtain ⟨y, hy, hl⟩ := h
      rcases List.mem_cons.1 hy with rfl | hy
      · exact absurd hl hn
      · rw [insR_some ⟨y, hy, hl⟩]
        rfl
theorem insR_here {x m' : RFil} : ∀ {l : List RFil}, (∀ m ∈ l, Op.bytesLess x.name m.name = false) → Op.bytesLess x.name m'.name = true → insR x (l ++ [m']) = (l ++ [x]) ++ [m']
  | [], _, h => by unfold insR; rw [List.nil_append]; simp [h]
  | m :: r, hn, h => by
    rw [List.cons_append]
    unfold insR
    rw [if_neg (by simp [hn m List.mem_cons_self]), insR_here (fun y hy => hn y (List.mem_cons_of_mem _ hy)) h]
    rfl
/-- The files so far, and whether the new one is among them. -/
structure Mk (x : RFil) (ms : List RFil) (i : Nat) (done : Bool) (out : List RFil) : Prop where
  yes : done = true → (∃ m ∈ ms.take i, Op.bytesLess x.name m.name = true) ∧ out = insR x (ms.take i)
  no : done = false → (∀ m ∈ ms.take i, Op.bytesLess x.name m.name = false) ∧ out = ms.take i
theorem Mk.start (x : RFil) (ms : List RFil) : Mk x ms 0 false [] := ⟨fun h => (by cases h), fun _ => ⟨fun m hm => by simp at hm, by simp⟩⟩
theorem Mk.on_ {x m : RFil} {ms out : List RFil} {i : Nat} (h : Mk x ms i true out) (hm : ms[i]? = some m) : Mk x ms (i + 1) true (out ++ [m]) := by
  obtain ⟨⟨y, hy, hl⟩, rfl⟩ := h.yes rfl
  refine ⟨fun _ => ?_, fun h => by cases h⟩
  rw [List.take_add_one, hm]
  exact ⟨⟨y, by simp [hy], hl⟩, (insR_some ⟨y, hy, hl⟩).symm⟩
theorem Mk.off {x m : RFil} {ms out : List RFil} {i : Nat} (h : Mk x ms i false out) (hm : ms[i]? = some m) (hl : Op.bytesLess x.name m.name = false) : Mk x ms (i + 1) false (out ++ [m]) := by
  obtain ⟨h1, rfl⟩ := h.no rfl
  refine ⟨fun h => (by cases h), fun _ => ?_⟩
  rw [List.take_add_one, hm]
  refine ⟨fun y hy => ?_, rfl⟩
  rcases List.mem_append.1 hy with hy | hy
  · exact h1 y hy
  · simp at hy
    rw [hy]
    exact hl
theorem Mk.here {x m : RFil} {ms out : List RFil} {i : Nat} (h : Mk x ms i false out) (hm : ms[i]? = some m) (hl : Op.bytesLess x.name m.name = true) : Mk x ms (i + 1) true ((out ++ [x]) ++ [m]) := by
  obtain ⟨h1, rfl⟩ := h.no rfl
  refine ⟨fun _ => ?_, fun h => by cases h⟩
  rw [List.take_add_one, hm]
  exact ⟨⟨m, by simp, hl⟩, (insR_here h1 hl).symm⟩
theorem Mk.end_yes {x : RFil} {ms out : List RFil} (h : Mk x ms ms.length true out) : out = insR x ms := by
  obtain ⟨_, h⟩ := h.yes rfl
  rw [h, List.take_length]
theorem Mk.end_no {x : RFil} {ms out : List RFil} (h : Mk x ms ms.length false out) : out ++ [x] = insR x ms := by
  obtain ⟨h1, h⟩ := h.no rfl
  rw [List.take_length] at h h1
  rw [h, insR_none h1]
theorem make_fin {z br : Nat} {W w1 wr : World} {s : RSt} {r : Dk} {n' : Int} {name : List UInt8} {v : Value} (HS : RkS z W w1 br s r { s with n := n' } r.tick) (hz : z ≤ w1.heap.size) (hx : Ext w1 wr)
    (hrow : wr.ownsRow w1.heap.size 79 3 v (insR ⟨name, .slice none 0 0, [], 0⟩ s.ms).length (rcells (insR ⟨name, .slice none 0 0, [], 0⟩ s.ms))) :
    RkS z W (wr.setCell ⟨br, 1, none⟩ v) br s r { s with n := n', v := v, ms := insR ⟨name, .slice none 0 0, [], 0⟩ s.ms } ((fun d : Dk => { d with fs := insF name d.fs }) r.tick) := by
  have hM := HS.rk.ext hx
  have hsw := hM.swapped (row_mono hrow hz) (fun y hy => by
    rcases insR_mem.1 hy with rfl | hy
    · exact .inr ⟨rfl, rfl⟩
    · exact .inl hy)
  have hfs : (insR ⟨name, .slice none 0 0, [], 0⟩ s.ms).map RFil.fil = ((fun d : Dk => { d with fs := insF name d.fs }) r.tick).fs := by
    rw [insR_fil _ rfl rfl]
    show insF name _ = insF name _
    rw [show s.ms.map RFil.fil = r.tick.fs from HS.rk.fs]
  rw [hfs] at hsw
  refine HS.trans ⟨hsw, (Kb.of_ext (fp := rall br { s with n := n' }) hx).trans (Kb.set (rall br { s with n := n' }) wr br 1 v (.inl rfl)) (fun _ h => .inl h), fun k hk => ?_⟩
  rcases hk with rfl | hk | ⟨y, hy, hk⟩
  · exact .inl (.inl rfl)
  · exact .inr ((hrow.lt k hk).1)
  · rcases insR_mem.1 hy with rfl | hy
    · cases hk
    · exact .inl (.inr (.inr ⟨y, hy, hk⟩))
theorem Mk.len {x : RFil} {ms out : List RFil} {i : Nat} {d : Bool} (h : Mk x ms i d out) (hi : i ≤ ms.length) : out.length ≤ i + 1 := by
  cases d with
  | false =>
    rw [(h.no rfl).2]
    simp
    omega
  | true =>
    rw [(h.yes rfl).2]
    have : ∀ l : List RFil, (insR x l).length = l.length + 1 := by
      intro l
      induction l with
      | nil => rfl
      | cons a r ih =>
        unfold insR
        split
        · rfl
        · simp [ih]
    rw [this]
    simp
    omega

theorem rmake_any {z br : Nat} {W : World} {s : RSt} {r : Dk} (h : RkM z W br s r) (hok : r.Ok) (hsm : r.Small) (hz : z ≤ W.heap.size) (name : List UInt8) (hl : name.length ≤ maxLen) :
    Calls Try.prog 48 #[.pointer (some ⟨br, 0, none⟩), strV name] W (RkPost z W br s r (dMake r name)) := by
  have HFI := Lib.hid (rfind_any h name)
  have HG := Lib.hid (refDkGood_any name W hl)
  obtain ⟨A, cF, hv, f1, f2, f3⟩ := h.form
  have k1 := h.str.blk.cell (i := 1) rfl
  rw [hv] at k1
  have k2 := h.str.blk.cell (i := 2) rfl
  have k7 := h.str.blk.cell (i := 7) rfl
  have HH := Lib.hid h
  have HL := Lib.hid h.len
  obtain ⟨n, hn⟩ : ∃ n, n = s.ms.length := ⟨_, rfl⟩
  rw [← hn] at k1 f1 f3 hv
  have HN := Lib.hid hn
  have HV := Lib.hid hv
  have HOK := Lib.hid hok
  have HSM := Lib.hid hsm
  have HC := Lib.hid (rcounted_any h hsm)
  have HF3 := Lib.hid f3
  unfold maxLen at f2
  unfold strV at HFI HG ⊢
  clear h hn hv hok hsm f3
  cases hon : r.on
  · have hres : dMake r name = (r, 150) := by unfold dMake; rw [if_pos hon]
    rw [hres]
    rw [hon] at k2
    simp only [Bool.not_false] at k2
    clear hon
    go_enter Try.func48, Try.ntmps48
    go_wp2_with fail
    go_ret
    exact RkPost.same HH.out (Ext.refl _) 150
  · rw [hon] at k2
    simp only [Bool.not_true] at k2
    have HON := Lib.hid hon
    clear hon
    cases hdn : dname name
    · have hres : dMake r name = (r, 2) := by unfold dMake; rw [if_neg (by simp [HON.out]), if_pos hdn]
      rw [hres]
      rw [hdn] at HG
      clear hdn
      go_enter Try.func48, Try.ntmps48
      go_wp2_with fail
      refine HG.out.mono ?_
      rintro e w1 ⟨rfl, rfl⟩
      go_wp2_with fail
      go_ret
      exact RkPost.same HH.out (Ext.refl _) 2
    · rw [hdn] at HG
      have HDN := Lib.hid hdn
      clear hdn
      cases hfi : findI name r.fs with
      | some i =>
        obtain ⟨f, hf1, hf2⟩ := (findI_spec name r.fs).1 i hfi
        have hres : dMake r name = (r, 153) := by unfold dMake; rw [if_neg (by simp [HON.out]), if_neg (by simp [HDN.out]), if_pos (by rw [hf2]; rfl)]
        rw [hres]
        rw [findZ_some hfi] at HFI
        clear hfi hf1 hf2
        go_enter Try.func48, Try.ntmps48
        go_wp2_with fail
        refine HG.out.mono ?_
        rintro e w1 ⟨rfl, rfl⟩
        go_wp2_with fail
        refine HFI.out.mono ?_
        rintro e w1 ⟨rfl, rfl⟩
        go_wp2_with fail
        go_ret
        exact RkPost.same HH.out (Ext.refl _) 153
      | none =>
        have hfn := (findI_spec name r.fs).2 hfi
        rw [findZ_none hfi] at HFI
        have HFN := Lib.hid hfn
        clear hfi hfn
        by_cases h64 : 64 ≤ n
        · have hres : dMake r name = (r, 151) := by unfold dMake; rw [if_neg (by simp [HON.out]), if_neg (by simp [HDN.out]), if_neg (by rw [HFN.out]; simp), if_pos (by rw [← HL.out, ← HN.out]; exact h64)]
          rw [hres]
          go_enter Try.func48, Try.ntmps48
          go_wp2_with fail
          refine HG.out.mono ?_
          rintro e w1 ⟨rfl, rfl⟩
          go_wp2_with fail
          refine HFI.out.mono ?_
          rintro e w1 ⟨rfl, rfl⟩
          go_wp2_with fail
          go_ret
          exact RkPost.same HH.out (Ext.refl _) 151
        have hres : dMake r name = r.count (fun d : Dk => { d with fs := insF name d.fs }) := by unfold dMake; rw [if_neg (by simp [HON.out]), if_neg (by simp [HDN.out]), if_neg (by rw [HFN.out]; simp), if_neg (by rw [← HL.out, ← HN.out]; exact h64)]
        rw [hres]
        cases hd : r.dead with
        | some k =>
          have HD := Lib.hid hd
          have HC1 := Lib.hid (HC.out.mono (fun e w' hx => hx.1 k hd))
          have HLO := Lib.hid (rlose_any HH.out HOK.out HSM.out hz k)
          clear hd
          go_enter Try.func48, Try.ntmps48
          go_wp2_with fail
          refine HG.out.mono ?_
          rintro e w1 ⟨rfl, rfl⟩
          go_wp2_with fail
          refine HFI.out.mono ?_
          rintro e w1 ⟨rfl, rfl⟩
          go_wp2_with fail
          refine HC1.out.mono ?_
          rintro e w1 ⟨rfl, rfl, hk⟩
          rw [hk] at k7
          clear hk
          go_wp2_with fail
          refine HLO.out.mono ?_
          rintro e w2 ⟨rfl, s', hs⟩
          have HS := Lib.hid hs
          clear hs
          go_wp2_with fail
          go_ret
          exact RkPost.lost HD.out HS.out
        | none =>
          have HD := Lib.hid hd
          have HC1 := Lib.hid (HC.out.mono (fun e w' hx => hx.2 hd))
          clear hd
          go_enter Try.func48, Try.ntmps48
          go_wp2_with fail
          refine HG.out.mono ?_
          rintro e w1 ⟨rfl, rfl⟩
          go_wp2_with fail
          refine HFI.out.mono ?_
          rintro e w1 ⟨rfl, rfl⟩
          go_wp2_with fail
          refine HC1.out.mono ?_
          rintro e w1 ⟨rfl, n', hs⟩
          have HS := Lib.hid hs
          have kk1 : w1.cell? ⟨br, 1, none⟩ = some s.v := hs.rk.str.blk.cell (i := 1) rfl
          rw [HV.out] at kk1
          have HSZ := Lib.hid (Nat.le_trans hz hs.kb.size)
          obtain ⟨i0, HI0, HZ00, HZ10, HZ20⟩ := info_parts infoFile
          have HI := Lib.hid HI0
          have HZ0 := Lib.hid HZ00
          have HZ1 := Lib.hid HZ10
          have HZ2 := Lib.hid HZ20
          have hbr : br < w1.heap.size := hs.rk.str.lt
          clear hs HI0 HZ00 HZ10 HZ20
          go_wp2_with fail
          go_loopw [5, 6, 7] (fun ov dv jv wr => ∃ (j : Nat) (db : Bool) (out : List RFil), j ≤ n ∧ jv = .int .i64 j ∧ dv = .bool db ∧ Mk ⟨name, .slice none 0 0, [], 0⟩ s.ms j db out ∧ wr.ownsRow w1.heap.size 79 3 ov out.length (rcells out) ∧ Ext w1 wr) (fun _ _ jv _ => n - (intOf jv).toNat)
          case atStart => exact ⟨0, false, [], Nat.zero_le _, rfl, rfl, Mk.start _ _, by simpa [rcells] using World.ownsRow_nil _ _ _ _, Ext.refl _⟩
          case round =>
            obtain ⟨j, db, out, hj, rfl, rfl, hmk, hrow, hx⟩ := hrel
            have HX := Lib.hid hx
            have HROW := Lib.hid hrow
            have HMK := Lib.hid hmk
            have kk := (hx.cell (p := ⟨br, 1, none⟩) hbr).trans kk1
            have hszx := hx.size
            have hol : out.length ≤ 65 := by have := hmk.len (by rw [← HN.out]; exact hj); omega
            by_cases hlt : j < n
            · obtain ⟨g, rfl⟩ := HF3.out (by omega)
              obtain ⟨mj, hmj⟩ : ∃ m, s.ms[j]? = some m := ⟨_, List.getElem?_eq_getElem (by rw [← HN.out]; exact hlt)⟩
              obtain ⟨c0, cc1, cc2⟩ := (HS.out.rk.ext hx).cells (s := { s with n := n' }) HV.out hmj
              obtain ⟨Aj, cj, hmvj, -⟩ := (HS.out.rk.bytes mj (List.mem_of_getElem? hmj)).bs.open_
              rw [hmvj] at cc1
              have HMVJ := Lib.hid hmvj
              have HMJ := Lib.hid hmj
              unfold strV at c0
              clear hx hmj hmvj hmk
              have hsl := HX.out.size
              cases db with
              | true =>
                go_wp2_with (at_builtin; refine wpList_append_own _ rfl (.tmp 62) (.tmp 70) 34 rfl w1.heap.size 79 i0 (.agg #[.string ⟨#[]⟩, .slice none 0 0, .int .i64 0]) 3 48 Try.underlying34 HI.out HZ0.out HZ1.out HZ2.out rfl (by decide) _ _ _ rfl (hrow.alloc _) ⟨wr.heap.size, 0, none⟩ 1 1 [.string ⟨mj.name.toArray⟩, .slice Aj mj.b.length cj, .int .i64 (mj.sure : Int)] rfl rfl (three_new _ _ _ _ _) (by simp [Value.oneCell']) (by unfold maxLen; omega) (by omega) (by have := HX.out.size; simp; omega) ?_; intro v3 w3 hown3 hg3 hnilv3; go_frame)
                go_roundw
                case rel =>
                  refine ⟨j + 1, true, out ++ [mj], by omega, by simp, rfl, HMK.out.on_ HMJ.out, ?_, grown_ext2 (HX.out.trans (ext_alloc _ _)) (hrow.alloc _) (Nat.le_refl _) hg3⟩
                  rw [rcells_append]
                  have hl : (out ++ [mj]).length = (out).length + 1 := by simp
                  rw [hl]
                  have hce : rcells [mj] = [strV mj.name, .slice Aj mj.b.length cj, .int .i64 (mj.sure : Int)] := by unfold rcells; simp [RFil.cells, HMVJ.out]
                  rw [hce]
                  exact hown3
                case measure => simp [intOf]; omega
              | false =>
                have hnn : mj.name ≠ name := by
                  have hmem : mj.fil ∈ r.fs := by rw [← HH.out.fs]; exact List.mem_map.2 ⟨mj, List.mem_of_getElem? HMJ.out, rfl⟩
                  exact findF_none HFN.out mj.fil hmem
                have heq : (mj.name == name) = false := by simpa using hnn
                cases hbl : Op.bytesLess name mj.name
                · have HBL := Lib.hid hbl
                  have hba : Op.bytesLess mj.name name = true := bl_total hbl (fun e => hnn e.symm)
                  clear hbl hnn
                  go_wp2_with (at_builtin; refine wpList_append_own _ rfl (.tmp 62) (.tmp 70) 34 rfl w1.heap.size 79 i0 (.agg #[.string ⟨#[]⟩, .slice none 0 0, .int .i64 0]) 3 48 Try.underlying34 HI.out HZ0.out HZ1.out HZ2.out rfl (by decide) _ _ _ rfl (hrow.alloc _) ⟨wr.heap.size, 0, none⟩ 1 1 [.string ⟨mj.name.toArray⟩, .slice Aj mj.b.length cj, .int .i64 (mj.sure : Int)] rfl rfl (three_new _ _ _ _ _) (by simp [Value.oneCell']) (by unfold maxLen; omega) (by omega) (by have := HX.out.size; simp; omega) ?_; intro v3 w3 hown3 hg3 hnilv3; go_frame)
                  go_roundw
                  case rel =>
                    refine ⟨j + 1, false, out ++ [mj], by omega, by simp, rfl, HMK.out.off HMJ.out HBL.out, ?_, grown_ext2 (HX.out.trans (ext_alloc _ _)) (hrow.alloc _) (Nat.le_refl _) hg3⟩
                    rw [rcells_append]
                    have hl : (out ++ [mj]).length = (out).length + 1 := by simp
                    rw [hl]
                    have hce : rcells [mj] = [strV mj.name, .slice Aj mj.b.length cj, .int .i64 (mj.sure : Int)] := by unfold rcells; simp [RFil.cells, HMVJ.out]
                    rw [hce]
                    exact hown3
                  case measure => simp [intOf]; omega
                · have HBL := Lib.hid hbl
                  have hba : Op.bytesLess mj.name name = false := by
                    cases hq : Op.bytesLess mj.name name with
                    | false => rfl
                    | true =>
                      have := bl_trans hbl hq
                      rw [bl_irrefl] at this
                      cases this
                  clear hbl hnn
                  go_wp2_with (first
                    | (at_builtin; refine wpList_append_own _ rfl (.tmp 57) (.tmp 60) 34 rfl w1.heap.size 79 i0 (.agg #[.string ⟨#[]⟩, .slice none 0 0, .int .i64 0]) 3 48 Try.underlying34 HI.out HZ0.out HZ1.out HZ2.out rfl (by decide) _ _ _ rfl (hrow.alloc _) ⟨wr.heap.size, 0, none⟩ 1 1 [.string ⟨name.toArray⟩, .slice none 0 0, .int .i64 0] rfl rfl (three_new _ _ _ _ _) (by simp [Value.oneCell']) (by unfold maxLen; omega) (by omega) (by have := HX.out.size; simp; omega) ?_; intro v3 w3 hown3 hg3 hnilv3; go_frame; have hx3 : Ext w1 w3 := grown_ext2 (HX.out.trans (ext_alloc _ _)) (hrow.alloc _) (Nat.le_refl _) hg3; have hce1 : rcells [(⟨name, .slice none 0 0, [], 0⟩ : RFil)] = [.string ⟨name.toArray⟩, .slice none 0 0, .int .i64 ((0 : Nat) : Int)] := rfl; have hrow3 : w3.ownsRow w1.heap.size 79 3 v3 (out ++ [(⟨name, .slice none 0 0, [], 0⟩ : RFil)]).length (rcells (out ++ [(⟨name, .slice none 0 0, [], 0⟩ : RFil)])) := (by rw [rcells_append, hce1, List.length_append]; exact hown3); obtain ⟨c0, cc1, cc2⟩ := (HS.out.rk.ext hx3).cells (s := { s with n := n' }) HV.out HMJ.out; rw [HMVJ.out] at cc1; have kk3 := (hx3.cell (p := ⟨br, 1, none⟩) hbr).trans kk1; have HR3 := Lib.hid hrow3; have HX3 := Lib.hid hx3; unfold strV at c0; have hol3 : (out ++ [(⟨name, .slice none 0 0, [], 0⟩ : RFil)]).length ≤ 66 := (by simp; omega); have hsz3 := hx3.size; clear hown3 hg3 hnilv3 hce1 hx3 hrow3)
                    | (at_builtin; refine wpList_append_own _ rfl (.tmp 62) (.tmp 70) 34 rfl w1.heap.size 79 i0 (.agg #[.string ⟨#[]⟩, .slice none 0 0, .int .i64 0]) 3 48 Try.underlying34 HI.out HZ0.out HZ1.out HZ2.out rfl (by decide) _ _ _ rfl (HR3.out.alloc _) ⟨w3.heap.size, 0, none⟩ 1 1 [.string ⟨mj.name.toArray⟩, .slice Aj mj.b.length cj, .int .i64 (mj.sure : Int)] rfl rfl (three_new _ _ _ _ _) (by simp [Value.oneCell']) (by unfold maxLen; omega) (by omega) (by have := hsz3; simp; omega) ?_; intro v4 w4 hown4 hg4 hnilv4; go_frame))
                  go_roundw
                  case rel =>
                    refine ⟨j + 1, true, (out ++ [(⟨name, .slice none 0 0, [], 0⟩ : RFil)]) ++ [mj], by omega, by simp, rfl, HMK.out.here HMJ.out HBL.out, ?_, grown_ext2 (HX3.out.trans (ext_alloc _ _)) (HR3.out.alloc _) (Nat.le_refl _) hg4⟩
                    rw [rcells_append]
                    have hl : ((out ++ [(⟨name, .slice none 0 0, [], 0⟩ : RFil)]) ++ [mj]).length = ((out ++ [(⟨name, .slice none 0 0, [], 0⟩ : RFil)])).length + 1 := by simp
                    rw [hl]
                    have hce : rcells [mj] = [strV mj.name, .slice Aj mj.b.length cj, .int .i64 (mj.sure : Int)] := by unfold rcells; simp [RFil.cells, HMVJ.out]
                    rw [hce]
                    exact hown4
                  case measure => simp [intOf]; omega
            · have hje : j = n := by omega
              have hjl : j = s.ms.length := by rw [hje, HN.out]
              have t1 := (HS.out.rk.ext hx).str.blk.thaw 1
              cases db with
              | true =>
                have ho := (hjl ▸ hmk).end_yes
                subst ho
                obtain ⟨A6, n6, c6, rfl⟩ := row_shape hrow
                have HFINAL := Lib.hid (make_fin HS.out HSZ.out hx hrow)
                clear hjl hx hrow hje hmk HROW HMK
                go_wp2_with fail
                go_ret
                exact RkPost.acted HD.out HFINAL.out
              | false =>
                have HO := Lib.hid (hjl ▸ hmk).end_no
                clear hjl hje hmk HMK hx
                go_wp2_with (at_builtin; refine wpList_append_own _ rfl (.tmp 74) (.tmp 77) 34 rfl w1.heap.size 79 i0 (.agg #[.string ⟨#[]⟩, .slice none 0 0, .int .i64 0]) 3 48 Try.underlying34 HI.out HZ0.out HZ1.out HZ2.out rfl (by decide) _ _ _ rfl (hrow.alloc _) ⟨wr.heap.size, 0, none⟩ 1 1 [.string ⟨name.toArray⟩, .slice none 0 0, .int .i64 0] rfl rfl (three_new _ _ _ _ _) (by simp [Value.oneCell']) (by unfold maxLen; omega) (by omega) (by have := HX.out.size; simp; omega) ?_; intro v3 w3 hown3 hg3 hnilv3; go_frame; have hx3 : Ext w1 w3 := grown_ext2 (HX.out.trans (ext_alloc _ _)) (hrow.alloc _) (Nat.le_refl _) hg3; have hce1 : rcells [(⟨name, .slice none 0 0, [], 0⟩ : RFil)] = [.string ⟨name.toArray⟩, .slice none 0 0, .int .i64 ((0 : Nat) : Int)] := rfl; have hrow3 : w3.ownsRow w1.heap.size 79 3 v3 (out ++ [(⟨name, .slice none 0 0, [], 0⟩ : RFil)]).length (rcells (out ++ [(⟨name, .slice none 0 0, [], 0⟩ : RFil)])) := (by rw [rcells_append, hce1, List.length_append]; exact hown3); rw [HO.out] at hrow3; obtain ⟨A6, n6, c6, rfl⟩ := row_shape hrow3; have HFINAL := Lib.hid (make_fin HS.out HSZ.out hx3 hrow3); have kk3 := (hx3.cell (p := ⟨br, 1, none⟩) hbr).trans kk1; have t3 := (HS.out.rk.ext hx3).str.blk.thaw 1; clear hown3 hg3 hnilv3 hce1 hx3 hrow3)
                go_ret
                exact RkPost.acted HD.out HFINAL.out
end Go.Proofs.Ytkejoiknnigllaa
