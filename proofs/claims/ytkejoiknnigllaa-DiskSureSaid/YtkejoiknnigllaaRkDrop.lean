/-
  Layer 15: Drop and Make of the document's disk.
-/
import Derived.Test.YtkejoiknnigllaaRkAppend
namespace Go.Proofs.Ytkejoiknnigllaa
open Go Go.RowKit Mono
set_option linter.unusedVariables false
set_option linter.unusedSimpArgs false
set_option maxRecDepth 100000
set_option maxHeartbeats 2000000
theorem infoFile : (Try.prog.info? 79).map (fun i => (i.zero, i.size, i.bytes)) = some (some (.agg #[.string ⟨#[]⟩, .slice none 0 0, .int .i64 0]), 3, 48) := by kernel_rfl
theorem row_mono {W : World} {z z' n size : Nat} {e : TypeId} {v : Value} {xs : List Value} (h : W.ownsRow z e size v n xs) (hz : z' ≤ z) : W.ownsRow z' e size v n xs := by
  refine ⟨h.1, ?_⟩
  rcases h.2 with h1 | ⟨g, cap, cur, h1, h2, rest⟩
  · exact .inl h1
  · exact .inr ⟨g, cap, cur, h1, Nat.le_trans hz h2, rest⟩
theorem erase_filter {fs : List Fil} {k : Nat} {name : List UInt8} (h : findI name fs = some k) (hp : fs.Pairwise fun a b => a.name ≠ b.name) : fs.eraseIdx k = fs.filter fun f => !(f.name == name) := by
  induction fs generalizing k with
  | nil => simp [findI] at h
  | cons a r ih =>
    obtain ⟨h1, h2⟩ := List.pairwise_cons.1 hp
    unfold findI at h ih
    rw [List.findIdx?_cons] at h
    by_cases ha : (a.name == name) = true
    · rw [if_pos ha] at h
      injection h with h
      subst h
      have han : a.name = name := by simpa using ha
      rw [List.eraseIdx_cons_zero, List.filter_cons, ha]
      simp only [Bool.not_true, Bool.false_eq_true, if_false]
      symm
      refine List.filter_eq_self.2 fun x hx => ?_
      have := h1 x hx
      rw [han] at this
      simpa using fun e => this e.symm
    · have ha' : (a.name == name) = false := by simpa using ha
      rw [if_neg ha] at h
      cases hx : r.findIdx? (fun f => f.name == name) with
      | none => rw [hx] at h; cases h
      | some j =>
        rw [hx] at h
        injection h with h
        subst h
        rw [List.eraseIdx_cons_succ, List.filter_cons, ha']
        simp only [Bool.not_false, if_true]
        rw [ih hx h2]
/-- The files so far, without the one of number k. -/
def dropTo (ms : List RFil) (k i : Nat) : List RFil := (ms.take i).eraseIdx k
theorem dropTo_at {ms : List RFil} {k : Nat} (h : k < ms.length) : dropTo ms k (k + 1) = dropTo ms k k := by
  unfold dropTo
  rw [List.take_add_one, List.getElem?_eq_getElem h]
  rw [List.eraseIdx_append_of_length_le (by simp; omega), List.eraseIdx_of_length_le (show (ms.take k).length ≤ k by simp; omega)]
  simp [Nat.min_eq_left (Nat.le_of_lt h)]
theorem dropTo_other {ms : List RFil} {k i : Nat} {m : RFil} (hm : ms[i]? = some m) (h : i ≠ k) : dropTo ms k (i + 1) = dropTo ms k i ++ [m] := by
  have hi := (List.getElem?_eq_some_iff.1 hm).1
  unfold dropTo
  rw [List.take_add_one, hm]
  rcases Nat.lt_or_ge i k with h1 | h1
  · rw [List.eraseIdx_of_length_le (by simp; omega), List.eraseIdx_of_length_le (by simp; omega)]
    rfl
  · rw [List.eraseIdx_append_of_lt_length (by simp; omega)]
    rfl
theorem dropTo_end (ms : List RFil) (k : Nat) : dropTo ms k ms.length = ms.eraseIdx k := by unfold dropTo; rw [List.take_length]
/-- The disk's slice is another one. -/
theorem RkM.swap {z br : Nat} {W : World} {s : RSt} {r : Dk} (h : RkM z W br s r) {v : Value} {ms : List RFil} (hrow : W.ownsRow z 79 3 v ms.length (rcells ms)) (hms : ∀ m ∈ ms, m ∈ s.ms ∨ m.v = .slice none 0 0 ∧ m.b = []) :
    RkS z W (W.setCell ⟨br, 1, none⟩ v) br s r { s with v := v, ms := ms } { r with fs := ms.map RFil.fil } → RkS z W (W.setCell ⟨br, 1, none⟩ v) br s r { s with v := v, ms := ms } { r with fs := ms.map RFil.fil } := fun h => h
theorem RkM.swapped {z br : Nat} {W : World} {s : RSt} {r : Dk} (h : RkM z W br s r) {v : Value} {ms : List RFil} (hrow : W.ownsRow z 79 3 v ms.length (rcells ms)) (hms : ∀ m ∈ ms, m ∈ s.ms ∨ m.v = .slice none 0 0 ∧ m.b = []) :
    RkM z (W.setCell ⟨br, 1, none⟩ v) br { s with v := v, ms := ms } { r with fs := ms.map RFil.fil } := by
  have hset := h.str.set 1 v
  have hkb := Kb.set (fun k => k = br) W br 1 v rfl
  refine ⟨rfl, hset, h.plan, row_kb hrow hkb (fun j hj e => ?_), fun m hm => ?_, h.zd⟩
  · rcases hrow.2 with ⟨h1, _⟩ | ⟨g, cap, cur, h1, _, hb, _⟩
    · rw [h1] at hj
      cases hj
    · rw [h1] at hj
      obtain rfl : g = j := by simpa [Value.ownBlock] using hj
      subst e
      have := h.str
      unfold BlkT at this
      rw [this] at hb
      injection hb with hb
      injection hb with _ hb
      revert hb
      decide
  · rcases hms m hm with h1 | ⟨h1, h2⟩
    · exact (h.bytes m h1).kb hkb (fun j hj e => (h.bytes m h1).ne h.str (by decide) j hj e)
    · rw [h1, h2]
      exact BsT.nil_ z _

theorem three_new (W : World) (T : TypeId) (a b c : Value) : ∀ (j : Nat) (u : Value), [a, b, c][j]? = some u → (W.alloc (.cells #[a, b, c] T)).cell? ((⟨W.heap.size, 0, none⟩ : Addr).add j) = some u := by
  intro j u hu
  rw [add_at]
  have hb := Blk.new W #[a, b, c] T
  have : (W.alloc (.cells #[a, b, c] T)).cell? ⟨W.heap.size, j, none⟩ = some u := hb.cell (i := j) hu
  simpa using this
theorem row_shape {W : World} {base n : Nat} {e : TypeId} {size : Nat} {v : Value} {xs : List Value} (h : W.ownsRow base e size v n xs) : ∃ A n c, v = .slice A n c := by
  rcases h.2 with ⟨rfl, _⟩ | ⟨g, cap, cur, rfl, _⟩
  · exact ⟨_, _, _, rfl⟩
  · exact ⟨_, _, _, rfl⟩
theorem grown_ext2 {W W' W0 : World} {v : Value} {base n : Nat} {e : TypeId} {size : Nat} {xs : List Value} (hx : Ext W0 W) (hrow : W.ownsRow base e size v n xs) (hb : W0.heap.size ≤ base) (hg : W.grownBy W' v.ownBlock) : Ext W0 W' :=
  ⟨hg.os.trans hx.os, hg.tape.trans hx.tape, hg.output.trans hx.output, Nat.le_trans hx.size hg.size, fun k hk => (hg.block k (Nat.lt_of_lt_of_le hk hx.size) (fun e => by have := (hrow.lt k e.symm).1; omega)).trans (hx.block k hk)⟩

theorem rdrop_any {z br : Nat} {W : World} {s : RSt} {r : Dk} (h : RkM z W br s r) (hok : r.Ok) (hsm : r.Small) (hz : z ≤ W.heap.size) (name : List UInt8) :
    Calls Try.prog 52 #[.pointer (some ⟨br, 0, none⟩), strV name] W (RkPost z W br s r (dDrop r name)) := by
  have HFI := Lib.hid (rfind_any h name)
  obtain ⟨A, cF, hv, f1, f2, f3⟩ := h.form
  have k1 := h.str.blk.cell (i := 1) rfl
  rw [hv] at k1
  have k2 := h.str.blk.cell (i := 2) rfl
  have k7 := h.str.blk.cell (i := 7) rfl
  have HH := Lib.hid h
  have HL := Lib.hid h.len
  obtain ⟨n, hn⟩ : ∃ n, n = s.ms.length := ⟨_, rfl⟩
  rw [← hn] at k1 f1 f3 hv
  have HN := Lib.hid hn
  have HV := Lib.hid hv
  have HOK := Lib.hid hok
  have HSM := Lib.hid hsm
  have HC := Lib.hid (rcounted_any h hsm)
  unfold maxLen at f2
  unfold strV at HFI ⊢
  clear h hn hv hok hsm
  cases hon : r.on
  · have hres : dDrop r name = (r, 150) := by unfold dDrop; rw [if_pos hon]
    rw [hres]
    rw [hon] at k2
    simp only [Bool.not_false] at k2
    clear hon
    go_enter Try.func52, Try.ntmps52
    go_wp2_with fail
    go_ret
    exact RkPost.same HH.out (Ext.refl _) 150
  · rw [hon] at k2
    simp only [Bool.not_true] at k2
    have HON := Lib.hid hon
    clear hon
    cases hfi : findI name r.fs with
    | none =>
      have hfn := (findI_spec name r.fs).2 hfi
      have hres : dDrop r name = (r, 152) := by unfold dDrop; rw [if_neg (by simp [HON.out]), hfn]
      rw [hres]
      rw [findZ_none hfi] at HFI
      clear hfi hfn
      go_enter Try.func52, Try.ntmps52
      go_wp2_with fail
      refine HFI.out.mono ?_
      rintro e w1 ⟨rfl, rfl⟩
      go_wp2_with fail
      go_ret
      exact RkPost.same HH.out (Ext.refl _) 152
    | some i =>
      obtain ⟨f, hf1, hf2⟩ := (findI_spec name r.fs).1 i hfi
      rw [findZ_some hfi] at HFI
      have hil : i < n := by rw [HN.out, HL.out]; exact (List.getElem?_eq_some_iff.1 hf1).1
      obtain ⟨g, rfl⟩ := f3 (by omega)
      obtain ⟨m, hm⟩ : ∃ m, s.ms[i]? = some m := ⟨_, List.getElem?_eq_getElem (by rw [← HN.out]; exact hil)⟩
      have hfe : f = m.fil := by have := HH.out.fil hm; rw [hf1] at this; injection this
      subst hfe
      obtain ⟨A1, c1, hmv, j1, j2, -, -⟩ := (HH.out.bytes m (List.mem_of_getElem? hm)).bs.open_
      have hlen : m.b.length ≤ 1048576 := HOK.out.len m.fil (List.mem_of_getElem? hf1)
      have hsure : m.sure ≤ m.b.length := HOK.out.sure m.fil (List.mem_of_getElem? hf1)
      have HFIE := Lib.hid hfi
      have HMM := Lib.hid hm
      have HMV := Lib.hid hmv
      have HF1 := Lib.hid hf1
      have HF2 := Lib.hid hf2
      have HFB := Lib.hid (show m.fil.b = m.b from rfl)
      clear hfi hm hmv hf1 hf2 f3
      have hres : dDrop r name = r.count (fun d : Dk => { d with fs := d.fs.filter fun f => !(f.name == name) }) := by unfold dDrop; rw [if_neg (by simp [HON.out]), HF2.out]
      rw [hres]
      cases hd : r.dead with
      | some k =>
        have HD := Lib.hid hd
        have HC1 := Lib.hid (HC.out.mono (fun e w' hx => hx.1 k hd))
        have HLO := Lib.hid (rlose_any HH.out HOK.out HSM.out hz k)
        clear hd
        go_enter Try.func52, Try.ntmps52
        go_wp2_with fail
        refine HFI.out.mono ?_
        rintro e w1 ⟨rfl, rfl⟩
        go_wp2_with fail
        refine HC1.out.mono ?_
        rintro e w1 ⟨rfl, rfl, hk⟩
        rw [hk] at k7
        clear hk
        go_wp2_with fail
        refine HLO.out.mono ?_
        rintro e w2 ⟨rfl, s', hs⟩
        have HS := Lib.hid hs
        clear hs
        go_wp2_with fail
        go_ret
        exact RkPost.lost HD.out HS.out
      | none =>
        have HD := Lib.hid hd
        have HC1 := Lib.hid (HC.out.mono (fun e w' hx => hx.2 hd))
        clear hd
        go_enter Try.func52, Try.ntmps52
        go_wp2_with fail
        refine HFI.out.mono ?_
        rintro e w1 ⟨rfl, rfl⟩
        go_wp2_with fail
        refine HC1.out.mono ?_
        rintro e w1 ⟨rfl, n', hs⟩
        have HS := Lib.hid hs
        have kk1 : w1.cell? ⟨br, 1, none⟩ = some s.v := hs.rk.str.blk.cell (i := 1) rfl
        rw [HV.out] at kk1
        clear hs
        have hkk1 := HS.out.rk.str.blk.cell (i := 1) rfl
        have HSZ := Lib.hid (Nat.le_trans hz HS.out.kb.size)
        obtain ⟨i0, HI0, HZ00, HZ10, HZ20⟩ := info_parts infoFile
        have HI := Lib.hid HI0
        have HZ0 := Lib.hid HZ00
        have HZ1 := Lib.hid HZ10
        have HZ2 := Lib.hid HZ20
        have hfew : n ≤ 64 := by rw [HN.out, HL.out]; exact HOK.out.few
        have hbr : br < w1.heap.size := HS.out.rk.str.lt
        clear hkk1 HI0 HZ00 HZ10 HZ20
        go_wp2_with fail
        go_loopw [6, 7] (fun ov jv wr => ∃ j : Nat, j ≤ n ∧ jv = .int .i64 j ∧ wr.ownsRow w1.heap.size 79 3 ov (dropTo s.ms i j).length (rcells (dropTo s.ms i j)) ∧ Ext w1 wr) (fun _ jv _ => n - (intOf jv).toNat)
        case atStart => exact ⟨0, Nat.zero_le _, rfl, by simpa [dropTo, rcells] using World.ownsRow_nil _ _ _ _, Ext.refl _⟩
        case round =>
          obtain ⟨j, hj, rfl, hrow, hx⟩ := hrel
          have HX := Lib.hid hx
          have HROW := Lib.hid hrow
          have kk := (hx.cell (p := ⟨br, 1, none⟩) hbr).trans kk1
          have hszx := hx.size
          by_cases hlt : j < n
          · obtain ⟨mj, hmj⟩ : ∃ m, s.ms[j]? = some m := ⟨_, List.getElem?_eq_getElem (by rw [← HN.out]; exact hlt)⟩
            have hdl : (dropTo s.ms i j).length ≤ 64 := by
              have h1 : (dropTo s.ms i j).length ≤ (s.ms.take j).length := by unfold dropTo; rw [List.length_eraseIdx]; split <;> omega
              simp at h1
              omega
            by_cases hji : j = i
            · subst hji
              have HE := Lib.hid (dropTo_at (ms := s.ms) (k := j) (by rw [← HN.out]; exact hlt))
              clear hrow hx hmj
              go_wp2_with fail
              go_roundw
              case rel => exact ⟨j + 1, by omega, by simp, by rw [HE.out]; exact HROW.out, HX.out⟩
              case measure => simp [intOf]; omega
            · have hne : ¬ ((j : Int) = (i : Int)) := by omega
              have HE := Lib.hid (dropTo_other hmj hji)
              obtain ⟨c0, cc1, cc2⟩ := (HS.out.rk.ext hx).cells (s := { s with n := n' }) HV.out hmj
              obtain ⟨Aj, cj, hmvj, -⟩ := (HS.out.rk.bytes mj (List.mem_of_getElem? hmj)).bs.open_
              rw [hmvj] at cc1
              have HMVJ := Lib.hid hmvj
              unfold strV at c0
              clear hx hmj hmvj
              go_wp2_with (at_builtin; refine wpList_append_own _ rfl (.tmp 38) (.tmp 46) 34 rfl w1.heap.size 79 i0 (.agg #[.string ⟨#[]⟩, .slice none 0 0, .int .i64 0]) 3 48 Try.underlying34 HI.out HZ0.out HZ1.out HZ2.out rfl (by decide) _ _ _ rfl (hrow.alloc _) ⟨wr.heap.size, 0, none⟩ 1 1 [.string ⟨mj.name.toArray⟩, .slice Aj mj.b.length cj, .int .i64 (mj.sure : Int)] rfl rfl (three_new _ _ _ _ _) (by simp [Value.oneCell']) (by unfold maxLen; omega) (by omega) (by have := HX.out.size; simp; omega) ?_; intro v3 w3 hown3 hg3 hnil3; go_frame)
              go_roundw
              case rel =>
                refine ⟨j + 1, by omega, by simp, ?_, grown_ext2 (HX.out.trans (ext_alloc _ _)) (hrow.alloc _) (Nat.le_refl _) hg3⟩
                rw [HE.out, rcells_append]
                have hl : (dropTo s.ms i j ++ [mj]).length = (dropTo s.ms i j).length + 1 := by simp
                rw [hl]
                have hce : rcells [mj] = [strV mj.name, .slice Aj mj.b.length cj, .int .i64 (mj.sure : Int)] := by unfold rcells; simp [RFil.cells, HMVJ.out]
                rw [hce]
                exact hown3
              case measure => simp [intOf]; omega
          · have hje : j = n := by omega
            have HJE := Lib.hid hje
            obtain ⟨A6, n6, c6, rfl⟩ := row_shape hrow
            have hM := HS.out.rk.ext hx
            have hrow' := row_mono hrow HSZ.out
            have hde : dropTo s.ms i j = s.ms.eraseIdx i := by rw [hje, HN.out]; exact dropTo_end _ _
            rw [hde] at hrow'
            have hsw := hM.swapped hrow' (fun x hx => .inl (List.mem_of_mem_eraseIdx hx))
            have hfs : (s.ms.eraseIdx i).map RFil.fil = ((fun d : Dk => { d with fs := d.fs.filter fun f => !(f.name == name) }) r.tick).fs := by
              show _ = r.tick.fs.filter _
              have e1 := HS.out.rk.fs
              rw [← erase_filter (show findI name r.tick.fs = some i by rw [tick_fs]; exact HFIE.out) (by rw [tick_fs]; exact HOK.out.apart), ← e1]
              rw [List.eraseIdx_eq_take_drop_succ, List.eraseIdx_eq_take_drop_succ]
              simp
            rw [hfs] at hsw
            have hob : ∀ k, (Value.ownBlock (.slice A6 n6 c6) = some k) → w1.heap.size ≤ k := fun k hk => (hrow.lt k hk).1
            have hkb := (Kb.of_ext (fp := rall br s) hx).trans (Kb.set (rall br s) wr br 1 (.slice A6 n6 c6) (.inl rfl)) (fun _ h => .inl h)
            have HFINAL := Lib.hid (HS.out.trans (⟨hsw, hkb, fun k hk => by
              rcases hk with rfl | hk | ⟨x, hx, hk⟩
              · exact .inl (.inl rfl)
              · exact .inr (hob k hk)
              · exact .inl (.inr (.inr ⟨x, List.mem_of_mem_eraseIdx hx, hk⟩))⟩ : RkS z w1 _ br { s with n := n' } r.tick _ ((fun d : Dk => { d with fs := d.fs.filter fun f => !(f.name == name) }) r.tick)))
            have t1 := hM.str.blk.thaw 1
            clear hM hrow hrow' hsw hfs hkb hob hde hje hx
            go_wp2_with fail
            go_ret
            exact RkPost.acted HD.out HFINAL.out
end Go.Proofs.Ytkejoiknnigllaa
