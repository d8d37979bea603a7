/-
  Layer 15: the document's disk: the power fails.
-/
import Derived.Test.YtkejoiknnigllaaRkWalk2
import Derived.Test.YtkejoiknnigllaaMonoDet
namespace Go.Proofs.Ytkejoiknnigllaa
open Go Go.RowKit Mono
set_option linter.unusedVariables false
set_option linter.unusedSimpArgs false
set_option maxRecDepth 100000
set_option maxHeartbeats 1000000

theorem rcells_cons (a : RFil) (r : List RFil) : rcells (a :: r) = strV a.name :: a.v :: .int .i64 (a.sure : Int) :: rcells r := by unfold rcells; simp [RFil.cells]
theorem rcells_set0 : ∀ {ms : List RFil} {i : Nat} {m : RFil} (x : List UInt8), ms[i]? = some m → (rcells ms).set (i * 3) (strV x) = rcells (ms.set i { m with name := x })
  | [], i, m, x, h => by simp at h
  | a :: r, 0, m, x, h => by
    obtain rfl : a = m := by simpa using h
    simp [rcells_cons]
  | a :: r, i + 1, m, x, h => by
    rw [rcells_cons, List.set_cons_succ, rcells_cons, ← rcells_set0 x (show r[i]? = some m by simpa using h), show (i + 1) * 3 = i * 3 + 1 + 1 + 1 by omega]
    simp only [List.set_cons_succ]
theorem rcells_set1 : ∀ {ms : List RFil} {i : Nat} {m : RFil} (v : Value) (b : List UInt8), ms[i]? = some m → (rcells ms).set (i * 3 + 1) v = rcells (ms.set i { m with v := v, b := b })
  | [], i, m, x, b, h => by simp at h
  | a :: r, 0, m, x, b, h => by
    obtain rfl : a = m := by simpa using h
    simp [rcells_cons]
  | a :: r, i + 1, m, x, b, h => by
    rw [show ∀ y, (a :: r).set (i + 1) y = a :: r.set i y from fun _ => rfl, rcells_cons, rcells_cons, ← rcells_set1 x b (show r[i]? = some m by simpa using h), show (i + 1) * 3 + 1 = i * 3 + 1 + 1 + 1 + 1 by omega]
    simp only [List.set_cons_succ]
theorem rcells_set2 : ∀ {ms : List RFil} {i : Nat} {m : RFil} (k : Nat), ms[i]? = some m → (rcells ms).set (i * 3 + 2) (.int .i64 (k : Int)) = rcells (ms.set i { m with sure := k })
  | [], i, m, x, h => by simp at h
  | a :: r, 0, m, x, h => by
    obtain rfl : a = m := by simpa using h
    simp [rcells_cons]
  | a :: r, i + 1, m, x, h => by
    rw [show ∀ y, (a :: r).set (i + 1) y = a :: r.set i y from fun _ => rfl, rcells_cons, rcells_cons, ← rcells_set2 x (show r[i]? = some m by simpa using h), show (i + 1) * 3 + 2 = i * 3 + 2 + 1 + 1 + 1 by omega]
    simp only [List.set_cons_succ]
/-- The first k files are cut. -/
def lostTo (keep : Int) (fs : List Fil) (k : Nat) : List Fil := (fs.take k).map (Fil.lose keep) ++ fs.drop k
theorem lostTo_get {keep : Int} {fs : List Fil} {k : Nat} (h : k ≤ fs.length) : (lostTo keep fs k)[k]? = fs[k]? := by
  unfold lostTo
  rw [List.getElem?_append_right (by simp; omega)]
  simp
  congr 1
  omega
theorem lostTo_step {keep : Int} {fs : List Fil} {k : Nat} {f : Fil} (h : fs[k]? = some f) : (lostTo keep fs k).set k (f.lose keep) = lostTo keep fs (k + 1) := by
  have hk := (List.getElem?_eq_some_iff.1 h).1
  unfold lostTo
  have hl : ((fs.take k).map (Fil.lose keep)).length = k := by simp; omega
  rw [List.set_append_right _ _ (by rw [hl]; exact Nat.le_refl _), hl, Nat.sub_self, List.drop_eq_getElem_cons hk, List.set_cons_zero, List.take_add_one, h]
  simp
theorem lostTo_end (keep : Int) (fs : List Fil) : lostTo keep fs fs.length = fs.map (Fil.lose keep) := by unfold lostTo; simp
theorem RkS.fput {z br : Nat} {W : World} {s : RSt} {r r' : Dk} (h : RkM z W br s r) {g n c : Nat} (hv : s.v = .slice (some ⟨g, 0, none⟩) n c) {i : Nat} {m m' : RFil} (hm : s.ms[i]? = some m) (j : Nat) (u : Value)
    (hc : (rcells s.ms).set (i * 3 + j) u = rcells (s.ms.set i m')) (hbs : BsT z W m'.v m'.b) (hnb : ∀ k, m'.v.ownBlock = some k → rall br s k ∨ W.heap.size ≤ k) (hr : rstr r' s = rstr r s) (hp : r'.plan = r.plan) (hfs : (s.ms.set i m').map RFil.fil = r'.fs) :
    RkS z W (W.setCell ⟨g, i * 3 + j, none⟩ u) br s r { s with ms := s.ms.set i m' } r' := by
  refine ⟨h.fput hv hm j u hc hbs hr hp hfs, Kb.set (rall br s) W g (i * 3 + j) u (.inr (.inl (by rw [hv]; rfl))), fun k hk => ?_⟩
  rcases hk with rfl | hk | ⟨x, hx, hk⟩
  · exact .inl (.inl rfl)
  · exact .inl (.inr (.inl hk))
  · rcases List.mem_or_eq_of_mem_set hx with hx | rfl
    · exact .inl (.inr (.inr ⟨x, hx, hk⟩))
    · exact hnb k hk
theorem RkM.frozen {z br : Nat} {W : World} {s : RSt} {r : Dk} (h : RkM z W br s r) {g n c : Nat} (hv : s.v = .slice (some ⟨g, 0, none⟩) n c) (j : Nat) : W.frozen? ⟨g, j, none⟩ = false := by
  obtain ⟨A, c', hf, _⟩ := h.form
  have hn : n = s.ms.length := by rw [hf] at hv; injection hv with _ hv _; exact hv.symm
  subst hn
  have hrow := h.row
  rw [hv] at hrow
  exact hrow.frozenAt j

theorem index_at3 {w : World} {o : Oper} {f : Operand → Value} {x y : Operand} {b c n i : Nat} (hop : o.op = .indexAddr 34 x y)
    (hx : f x = .slice (some ⟨b, 0, none⟩) n c) (hy : f y = .int .i64 (i : Int)) (hi : i < n) :
    (execOp f o).run Try.prog w = .ok (.value (.pointer (some ⟨b, i * 3, none⟩))) w := by
  have hi' : (i : Int) < (n : Int) := by omega
  have h0 : (0 : Int) ≤ (i : Int) := by omega
  have hk : (sizeOf 79).run Try.prog w = .ok 3 w := by kernel_rfl
  simp [execOp, hop, hx, hy, Instr.indexAt, run_underlying Try.underlying34, hi', h0, hk, add_at, go_sem]
  intro h
  omega
/-- What holds while files are cut. -/
structure RLs (z : Nat) (W : World) (br : Nat) (s : RSt) (r : Dk) (keep : Int) (k : Nat) (s' : RSt) (wr : World) : Prop where
  st : RkS z W wr br s r s' { r with fs := lostTo keep r.fs k }
  v : s'.v = s.v
  n : s'.n = s.n
  kk : s'.k = s.k
theorem rlose_any {z br : Nat} {W : World} {s : RSt} {r : Dk} (h : RkM z W br s r) (hok : r.Ok) (hsm : r.Small) (hz : z ≤ W.heap.size) (keep : Int) :
    Calls Try.prog 39 #[.pointer (some ⟨br, 0, none⟩), .int .i64 keep] W fun e w' => e = .returned (.tuple #[]) ∧ ∃ s', RkS z W w' br s r s' (r.lose keep) := by
  obtain ⟨A, cF, hv, f1, f2, f3⟩ := h.form
  have HH := Lib.hid h
  have HL := Lib.hid h.len
  obtain ⟨n, hn⟩ : ∃ n, n = s.ms.length := ⟨_, rfl⟩
  rw [← hn] at f1 f3 hv
  have HN := Lib.hid hn
  have HV0 := Lib.hid hv
  unfold maxLen at f2
  have HOK := Lib.hid hok
  have hcnt := hsm.cnt
  clear h hn hv hok hsm
  go_enter Try.func39, Try.ntmps39
  go_wp2_with fail
  go_loopw [4] (fun iv wr => ∃ (k : Nat) (s' : RSt), k ≤ n ∧ iv = .int .i64 k ∧ RLs z W br s r keep k s' wr) (fun iv _ => n - (intOf iv).toNat)
  case atStart => exact ⟨0, s, Nat.zero_le _, rfl, ⟨RkS.refl (by have := HH.out; simpa [lostTo] using this), rfl, rfl, rfl⟩⟩
  case round =>
    obtain ⟨i, s', hi, rfl, hR⟩ := hrel
    have hM := hR.st.rk
    have hln : s'.ms.length = n := by
      have := hM.len
      simp [lostTo] at this
      rw [this, HN.out, HL.out]
      omega
    have k1 := hM.str.blk.cell (i := 1) rfl
    rw [hR.v, HV0.out] at k1
    have HR := Lib.hid hR
    by_cases hlt : i < n
    · obtain ⟨g, rfl⟩ := f3 (by omega)
      obtain ⟨m, hm⟩ : ∃ m, s'.ms[i]? = some m := ⟨_, List.getElem?_eq_getElem (by omega)⟩
      have hfil : r.fs[i]? = some m.fil := by
        have := hM.fil hm
        rw [← lostTo_get (keep := keep) (by rw [← HL.out, ← HN.out]; exact hi)]
        exact this
      have hmf := List.mem_of_getElem? hfil
      have hsure : m.sure ≤ m.b.length := HOK.out.sure m.fil hmf
      have hlen : m.b.length ≤ 1048576 := HOK.out.len m.fil hmf
      obtain ⟨c0, c1', c2⟩ := hM.cells (hR.v.trans HV0.out) hm
      obtain ⟨A1, c1, hmv, j1, j2, -, -⟩ := (hM.bytes m (List.mem_of_getElem? hm)).bs.open_
      rw [hmv] at c1'
      obtain ⟨N, hN⟩ : ∃ N, N = keepN keep m.fil := ⟨_, rfl⟩
      have hN1 : (N : Int) = (m.sure : Int) + max 0 (min keep ((m.b.length : Int) - (m.sure : Int))) := by
        rw [hN]
        unfold keepN RFil.fil
        dsimp only
        omega
      have hN2 : N ≤ m.b.length := by omega
      have HN1 := Lib.hid hN1
      have HNN := Lib.hid hN
      have HFIL := Lib.hid hfil
      have HMM := Lib.hid hm
      have HV := Lib.hid (hR.v.trans HV0.out)
      have HNL := Lib.hid hN2
      have hbs0 := (hM.bytes m (List.mem_of_getElem? hm)).bs
      rw [hmv] at hbs0
      have HBS := Lib.hid hbs0
      obtain ⟨d, hd⟩ : ∃ d : Int, d = (m.b.length : Int) - (m.sure : Int) := ⟨_, rfl⟩
      obtain ⟨e1, he1⟩ : ∃ e : Int, e = min keep d := ⟨_, rfl⟩
      obtain ⟨e2, he2⟩ : ∃ e : Int, e = max 0 e1 := ⟨_, rfl⟩
      have hsum : IntKind.i64.wrap ((m.sure : Int) + e2) = (N : Int) := by
        have : (N : Int) = (m.sure : Int) + e2 := by rw [hN1, he2, he1, hd]
        rw [IntWalk.i64_in _ (by omega), this]
      have hmin : ∀ (w' : World) (ts : Array TypeId) (t : TypeId), (Builtin.min_ ts t #[.int .i64 keep, .int .i64 d]).run Try.prog w' = .ok (.int .i64 e1) w' := fun w' ts t => by
        rw [run_min_int2, he1]
        congr 2
        split <;> omega
      have hmax : ∀ (w' : World) (ts : Array TypeId) (t : TypeId), (Builtin.max_ ts t #[.int .i64 0, .int .i64 e1]).run Try.prog w' = .ok (.int .i64 e2) w' := fun w' ts t => by
        rw [run_max_int2, he2]
        congr 2
        split <;> omega
      have hw31 : IntKind.i64.wrap ((m.b.length : Int) - (m.sure : Int)) = d := by rw [IntWalk.i64_in _ (by omega), hd]
      have HBX := Lib.hid (Blk.new wr #[strV m.name, .slice A1 m.b.length c1, .int .i64 (m.sure : Int)] 79)
      have HM1 := Lib.hid (hM.ext (ext_alloc wr (.cells #[strV m.name, .slice A1 m.b.length c1, .int .i64 (m.sure : Int)] 79)))
      have HX1 := Lib.hid (ext_alloc wr (.cells #[strV m.name, .slice A1 m.b.length c1, .int .i64 (m.sure : Int)] 79))
      unfold strV at c0 HBX HM1 HX1
      clear hM hR hm hfil hmf hmv hN hN1 hd he1 he2 f3 hbs0 hN2
      go_wp2_with fail
      obtain ⟨pb, hpb⟩ : ∃ p, p = wr.heap.size := ⟨_, rfl⟩
      obtain ⟨Wb, hWb⟩ : ∃ w, w = wr.alloc (.cells #[.string ⟨m.name.toArray⟩, .slice A1 m.b.length c1, .int .i64 (m.sure : Int)] 79) := ⟨_, rfl⟩
      have BX := Lib.hid (show Blk Wb pb [strV m.name, .slice A1 m.b.length c1, .int .i64 (m.sure : Int)] by rw [hWb, hpb]; exact HBX.out)
      replace HM1 := Lib.hid (show RkM z Wb br s' _ by rw [hWb]; exact HM1.out)
      replace HX1 := Lib.hid (show Ext wr Wb by rw [hWb]; exact HX1.out)
      replace HBS := Lib.hid (HBS.out.ext HX1.out)
      rw [← hpb, ← hWb]
      clear hpb hWb HBX hmin hmax hsum hw31 k1 c0 c1' c2
      refine wp_region_turns 3 [(0, 2, false), (0, 2, false), (0, 2, false), (0, 2, false), (0, 2, false), (0, 2, false), (0, 2, false), (0, 0, true), (0, 2, false), (0, 2, false), (0, 2, false), (0, 1, false), (1, 1, true), (0, 2, false), (2, 2, false), (2, 2, false), (2, 2, true)] (fun w0 c => match c with | 0 => w0 | 1 => w0.alloc (.cells #[] 5) | 2 => resW ((Builtin.append_ #[23, 23] 23 #[.slice (some ⟨w0.heap.size, 0, none⟩) 0 0, .slice A1 N c1]).run Try.prog (w0.alloc (.cells #[] 5))) (w0.alloc (.cells #[] 5)) | _ => (((resW ((Builtin.append_ #[23, 23] 23 #[.slice (some ⟨w0.heap.size, 0, none⟩) 0 0, .slice A1 N c1]).run Try.prog (w0.alloc (.cells #[] 5))) (w0.alloc (.cells #[] 5))).setCell ⟨g, i * 3, none⟩ (strV m.name)).setCell ⟨g, i * 3 + 1, none⟩ (resV ((Builtin.append_ #[23, 23] 23 #[.slice (some ⟨w0.heap.size, 0, none⟩) 0 0, .slice A1 N c1]).run Try.prog (w0.alloc (.cells #[] 5))))).setCell ⟨g, i * 3 + 2, none⟩ (.int .i64 (N : Int))) (by kernel_rfl) (by kernel_rfl) (by kernel_rfl) (fun _ => rfl) ?_
      intro w0 ws hext hsz hws
      have q0 : ws 0 = w0 := hws 0
      have q1 : ws 1 = w0.alloc (.cells #[] 5) := hws 1
      have q2 : ws 2 = resW ((Builtin.append_ #[23, 23] 23 #[.slice (some ⟨w0.heap.size, 0, none⟩) 0 0, .slice A1 N c1]).run Try.prog (w0.alloc (.cells #[] 5))) (w0.alloc (.cells #[] 5)) := hws 2
      have q3 : ws 3 = (((resW ((Builtin.append_ #[23, 23] 23 #[.slice (some ⟨w0.heap.size, 0, none⟩) 0 0, .slice A1 N c1]).run Try.prog (w0.alloc (.cells #[] 5))) (w0.alloc (.cells #[] 5))).setCell ⟨g, i * 3, none⟩ (strV m.name)).setCell ⟨g, i * 3 + 1, none⟩ (resV ((Builtin.append_ #[23, 23] 23 #[.slice (some ⟨w0.heap.size, 0, none⟩) 0 0, .slice A1 N c1]).run Try.prog (w0.alloc (.cells #[] 5))))).setCell ⟨g, i * 3 + 2, none⟩ (.int .i64 (N : Int)) := hws 3
      clear hws
      have hM0 := HM1.out.ext hext
      have bxw0 := BX.out.ext hext
      have hx01 := ext_alloc w0 (.cells #[] 5)
      obtain ⟨i0, hi0, hz0, hz1, hz2⟩ := info_parts infoU8
      obtain ⟨v', W2, hrun, hown, hgrow, -⟩ := run_append_sl (P := Try.prog) (w := w0.alloc (.cells #[] 5)) w0.heap.size 23 23 5 i0 (.int .u8 0) 1 Try.underlying23 hi0 hz0 hz1 hz2 rfl (OwB.empty_ w0 (Nat.le_refl _)) (((HBS.out.ext hext).upto HNL.out).ext hx01) bv_one (by unfold maxLen; simp; omega) (by simp; omega) (by simp)
      have hx02 : Ext w0 W2 := Below.growB hx01 (OwB.empty_ w0 (Nat.le_refl _)) hgrow (Nat.le_refl _) (by simp)
      have hown' : OwB W2 w0.heap.size v' (m.b.take N) := by
        have h := hown
        simp only [List.map_nil, List.nil_append] at h
        exact h
      obtain ⟨A3, c3, rfl, -⟩ := hown'.bs.open_
      obtain ⟨L3, hL3⟩ : ∃ n, n = (m.b.take N).length := ⟨_, rfl⟩
      rw [← hL3] at hown' hrun
      clear hL3
      rw [hrun] at q2 q3
      simp only [resW, resV] at q2 q3
      have brw0 := hM0.str.blk
      simp only [rstr, HV.out] at brw0
      have brw1 := brw0.ext hx01
      have brw2 := brw0.ext hx02
      have bxw1 := bxw0.ext hx01
      have bxw2 := bxw0.ext hx02
      have hM2 := hM0.ext hx02
      obtain ⟨d0, d1, d2⟩ := hM2.cells HV.out HMM.out
      have z0 := hM2.frozen HV.out (i * 3)
      have z1 := hM2.frozen HV.out (i * 3 + 1)
      have z2 := hM2.frozen HV.out (i * 3 + 2)
      refine detT_pure rfl (.pointer (some ⟨br, 0, none⟩)) (fun _ _ => rfl) ?_ ?_
      · rintro ρ ⟨h0, -⟩ w'
        have e0 : ρ 0 = .pointer (some ⟨br, 0, none⟩) := h0
        simp [execOp, evR, e0, go_sem]
      refine detT_pure rfl (.pointer (some ⟨br, 0, none⟩)) (fun _ _ => rfl) ?_ ?_
      · rintro ρ ⟨h35, -⟩ w'
        have e35 : ρ 35 = .pointer (some ⟨br, 0, none⟩) := h35
        simp [execOp, evR, e35, go_sem]
      refine detT_pure rfl (.pointer (some ⟨br, 1, none⟩)) (fun _ _ => rfl) ?_ ?_
      · rintro ρ ⟨h36, -⟩ w'
        have e36 : ρ 36 = .pointer (some ⟨br, 0, none⟩) := h36
        simp [execOp, evR, e36, go_sem]
      refine detT_read rfl (.slice (some ⟨g, 0, none⟩) n cF) (fun _ _ => rfl) ?_ ?_
      · rintro ρ ⟨h37, -⟩ c hc1 hc2
        have e37 : ρ 37 = .pointer (some ⟨br, 1, none⟩) := h37
        have hc : c = 0 ∨ c = 1 ∨ c = 2 := by have h1 : 0 ≤ c := hc1; have h2 : c ≤ 2 := hc2; omega
        rcases hc with rfl | rfl | rfl
        · rw [q0]
          have c := brw0.cell (i := 1) rfl
          simp [execOp, evR, e37, c, go_sem]
        · rw [q1]
          have c := brw1.cell (i := 1) rfl
          simp [execOp, evR, e37, c, go_sem]
        · rw [q2]
          have c := brw2.cell (i := 1) rfl
          simp [execOp, evR, e37, c, go_sem]
      refine detT_pure rfl (.int .i64 (i : Int)) (fun _ _ => rfl) ?_ ?_
      · rintro ρ ⟨h4, -⟩ w'
        have e4 : ρ 4 = .int .i64 (i : Int) := h4
        simp [execOp, evR, e4, go_sem]
      refine detT_pure rfl (.pointer (some ⟨pb, 0, none⟩)) (fun _ _ => rfl) ?_ ?_
      · rintro ρ ⟨h5, -⟩ w'
        have e5 : ρ 5 = .pointer (some ⟨pb, 0, none⟩) := h5
        simp [execOp, evR, e5, go_sem]
      refine detT_read rfl (strV m.name) (fun _ _ => rfl) ?_ ?_
      · rintro ρ ⟨h40, -⟩ c hc1 hc2
        have e40 : ρ 40 = .pointer (some ⟨pb, 0, none⟩) := h40
        have hc : c = 0 ∨ c = 1 ∨ c = 2 := by have h1 : 0 ≤ c := hc1; have h2 : c ≤ 2 := hc2; omega
        rcases hc with rfl | rfl | rfl
        · rw [q0]
          have c := bxw0.cell (i := 0) rfl
          simp [execOp, evR, e40, c, go_sem]
        · rw [q1]
          have c := bxw1.cell (i := 0) rfl
          simp [execOp, evR, e40, c, go_sem]
        · rw [q2]
          have c := bxw2.cell (i := 0) rfl
          simp [execOp, evR, e40, c, go_sem]
      refine detT_turn rfl (.slice (some ⟨w0.heap.size, 0, none⟩) 0 0) (fun _ _ => rfl) ?_ ?_
      · rintro ρ -
        show (execOp (evR ρ) _).run Try.prog (ws 0) = .ok (.value _) (ws 1)
        rw [q0, q1]
        simp [execOp, evR, go_sem]
      refine detT_pure rfl (.pointer (some ⟨pb, 1, none⟩)) (fun _ _ => rfl) ?_ ?_
      · rintro ρ ⟨h5, -⟩ w'
        have e5 : ρ 5 = .pointer (some ⟨pb, 0, none⟩) := h5
        simp [execOp, evR, e5, go_sem]
      refine detT_read rfl (.slice A1 m.b.length c1) (fun _ _ => rfl) ?_ ?_
      · rintro ρ ⟨h43, -⟩ c hc1 hc2
        have e43 : ρ 43 = .pointer (some ⟨pb, 1, none⟩) := h43
        have hc : c = 0 ∨ c = 1 ∨ c = 2 := by have h1 : 0 ≤ c := hc1; have h2 : c ≤ 2 := hc2; omega
        rcases hc with rfl | rfl | rfl
        · rw [q0]
          have c := bxw0.cell (i := 1) rfl
          simp [execOp, evR, e43, c, go_sem]
        · rw [q1]
          have c := bxw1.cell (i := 1) rfl
          simp [execOp, evR, e43, c, go_sem]
        · rw [q2]
          have c := bxw2.cell (i := 1) rfl
          simp [execOp, evR, e43, c, go_sem]
      refine detT_pure rfl (.int .i64 (N : Int)) (fun _ _ => rfl) ?_ ?_
      · rintro ρ ⟨h6, -⟩ w'
        have e6 : ρ 6 = .int .i64 (N : Int) := h6
        simp [execOp, evR, e6, go_sem]
      refine detT_pure rfl (.slice A1 N c1) (fun _ _ => rfl) ?_ ?_
      · rintro ρ ⟨h44, h45, -⟩ w'
        have e44 : ρ 44 = .slice A1 m.b.length c1 := h44
        have e45 : ρ 45 = .int .i64 (N : Int) := h45
        have q1 : (0 : Int) ≤ (N : Int) := by omega
        have q2 : (N : Int) ≤ (c1 : Int) := by have := HNL.out; omega
        simp [execOp, evR, e44, e45, q1, q2, go_sem]
      refine detT_turn rfl (.slice A3 L3 c3) (fun _ _ => rfl) ?_ ?_
      · rintro ρ ⟨h42, h46, -⟩
        have e42 : ρ 42 = .slice (some ⟨w0.heap.size, 0, none⟩) 0 0 := h42
        have e46 : ρ 46 = .slice A1 N c1 := h46
        show (execOp (evR ρ) _).run Try.prog (ws 1) = .ok (.value _) (ws 2)
        rw [q1, q2]
        simp only [execOp, resolve, invoke, builtin, evR, List.map_toArray, List.map_cons, List.map_nil, e42, e46, Sem.run_bind, Sem.run_pure, Result.andThen_ok, hrun]
      refine detT_pure rfl (.int .i64 (N : Int)) (fun _ _ => rfl) ?_ ?_
      · rintro ρ ⟨h6, -⟩ w'
        have e6 : ρ 6 = .int .i64 (N : Int) := h6
        simp [execOp, evR, e6, go_sem]
      refine detT_pure rfl (.agg #[strV m.name, .slice A3 L3 c3, .int .i64 (N : Int)]) (fun _ _ => rfl) ?_ ?_
      · rintro ρ ⟨h41, h47, h48, -⟩ w'
        have e41 : ρ 41 = strV m.name := h41
        have e47 : ρ 47 = .slice A3 L3 c3 := h47
        have e48 : ρ 48 = .int .i64 (N : Int) := h48
        unfold strV at e41 ⊢
        simp [execOp, evR, e41, e47, e48, go_sem]
      refine detT_pure rfl (.pointer (some ⟨g, i * 3, none⟩)) (fun _ _ => rfl) ?_ ?_
      · rintro ρ ⟨h38, h39, -⟩ w'
        have e38 : ρ 38 = .slice (some ⟨g, 0, none⟩) n cF := h38
        have e39 : ρ 39 = .int .i64 (i : Int) := h39
        exact index_at3 rfl e38 e39 (by omega)
      refine detT_store rfl (fun _ _ => rfl) ?_ ?_
      · rintro ρ ⟨h50, h49, -⟩
        have e50 : ρ 50 = .pointer (some ⟨g, i * 3, none⟩) := h50
        have e49 : ρ 49 = .agg #[strV m.name, .slice A3 L3 c3, .int .i64 (N : Int)] := h49
        show (execOp (evR ρ) _).run Try.prog (ws 2) = .ok .skip (ws 3)
        rw [q2, q3]
        unfold strV at d0 e49 ⊢
        simp [execOp, evR, e50, e49, d0, d1, d2, z0, z1, z2, go_sem]
      simp only [DetT, applyV, Act.put, List.setIfInBounds_toArray, List.set_cons_zero, List.set_cons_succ]
      rw [q3]
      have hzz : z ≤ w0.heap.size := Nat.le_trans hz (Nat.le_trans HR.out.st.kb.size (Nat.le_trans HX1.out.size hext.size))
      have hbn : BsT z W2 (.slice A3 L3 c3) (m.b.take N) := ⟨hown'.bs, fun j hj => ⟨Nat.le_trans hzz ((BsT.of_owb hown').typed j hj).1, ((BsT.of_owb hown').typed j hj).2⟩⟩
      have hnew : ∀ j, (Value.slice A3 L3 c3).ownBlock = some j → w0.heap.size ≤ j := fun j hj => ((BsT.of_owb hown').typed j hj).1
      have hil : i < s'.ms.length := (List.getElem?_eq_some_iff.1 HMM.out).1
      have hsame : s'.ms.set i m = s'.ms := by
        apply List.ext_getElem?
        intro j
        rw [List.getElem?_set]
        split
        · rename_i hij
          subst hij
          first | rw [HMM.out, if_pos hil] | rw [HMM.out]
        · rfl
      have a0 := hM2.fput (m' := { m with name := m.name }) (r' := { r with fs := lostTo keep r.fs i }) HV.out HMM.out 0 (strV m.name) (rcells_set0 m.name HMM.out) (hM2.bytes m (List.mem_of_getElem? HMM.out)) rfl rfl (by rw [show ({ m with name := m.name } : RFil) = m from rfl, hsame]; exact HR.out.st.rk.fs)
      have hg1 : (s'.ms.set i m)[i]? = some m := by rw [List.getElem?_set_self hil]
      have hb1 := hbn.kb (Kb.set (fun k => k = g) W2 g (i * 3) (strV m.name) rfl) (fun j hj e => hM2.bne (by rw [HV.out]; rfl) hbn j hj e)
      have a1 := a0.fput (i := i) (m := m) (m' := { m with v := .slice A3 L3 c3, b := m.b.take N }) (r' := { r with fs := ((s'.ms.set i m).set i { m with v := .slice A3 L3 c3, b := m.b.take N }).map RFil.fil }) HV.out hg1 1 (.slice A3 L3 c3) (rcells_set1 _ _ hg1) hb1 rfl rfl rfl
      have hg2 : ((s'.ms.set i m).set i ({ m with v := .slice A3 L3 c3, b := m.b.take N } : RFil))[i]? = some { m with v := .slice A3 L3 c3, b := m.b.take N } := by rw [List.getElem?_set_self (by simpa using hil)]
      have hfin : (((s'.ms.set i m).set i ({ m with v := .slice A3 L3 c3, b := m.b.take N } : RFil)).set i { m with v := .slice A3 L3 c3, b := m.b.take N, sure := N }).map RFil.fil = lostTo keep r.fs (i + 1) := by
        rw [List.set_set, List.set_set, List.map_set, HR.out.st.rk.fs, ← lostTo_step HFIL.out]
        congr 1
        show (⟨m.name, m.b.take N, N⟩ : Fil) = Fil.lose keep m.fil
        rw [HNN.out]
        rfl
      have a2 := a1.fput (i := i) (m := { m with v := .slice A3 L3 c3, b := m.b.take N }) (m' := { m with v := .slice A3 L3 c3, b := m.b.take N, sure := N }) (r' := { r with fs := lostTo keep r.fs (i + 1) }) HV.out hg2 2 (.int .i64 (N : Int)) (rcells_set2 (i := i) (m := { m with v := .slice A3 L3 c3, b := m.b.take N }) N hg2) (a1.bytes { m with v := .slice A3 L3 c3, b := m.b.take N } (List.mem_of_getElem? hg2)) rfl rfl hfin
      have hgv : s'.v.ownBlock = some g := by rw [HV.out]; rfl
      have hkb := (((Kb.of_ext (fp := rall br s') ((HX1.out.trans hext).trans hx02)).trans (Kb.set (rall br s') W2 g (i * 3) (strV m.name) (.inr (.inl hgv))) (fun _ h => .inl h)).trans (Kb.set (rall br s') _ g (i * 3 + 1) (.slice A3 L3 c3) (.inr (.inl hgv))) (fun _ h => .inl h)).trans (Kb.set (rall br s') _ g (i * 3 + 2) (.int .i64 (N : Int)) (.inr (.inl hgv))) (fun _ h => .inl h)
      have hstep : RkS z wr _ br s' { r with fs := lostTo keep r.fs i } { s' with ms := ((s'.ms.set i m).set i ({ m with v := .slice A3 L3 c3, b := m.b.take N } : RFil)).set i { m with v := .slice A3 L3 c3, b := m.b.take N, sure := N } } { r with fs := lostTo keep r.fs (i + 1) } := ⟨a2, hkb, fun k hk => by
        rw [List.set_set, List.set_set] at hk
        rcases hk with rfl | hk | ⟨x, hx, hk⟩
        · exact .inl (.inl rfl)
        · exact .inl (.inr (.inl hk))
        · rcases List.mem_or_eq_of_mem_set hx with hx | rfl
          · exact .inl (.inr (.inr ⟨x, hx, hk⟩))
          · exact .inr (Nat.le_trans (Nat.le_trans HX1.out.size hext.size) (hnew k hk))⟩
      have HFIN := Lib.hid (⟨HR.out.st.trans hstep, HR.out.v, HR.out.n, HR.out.kk⟩ : RLs z W br s r keep (i + 1) _ _)
      clear a0 a1 a2 hstep hkb hfin hg1 hg2 hb1 hsame hbn hnew hown' hown hrun hgrow brw0 brw1 brw2 bxw0 bxw1 bxw2 hM2 hM0 d0 d1 d2 z0 z1 z2 q0 q1 q2 q3
      unfold strV at HFIN ⊢
      go_wp2_with fail
      go_roundw
      case rel => exact ⟨i + 1, _, by omega, by simp, HFIN.out⟩
      case measure => simp [intOf]; omega
    · have hie : i = n := by omega
      have HIE := Lib.hid hie
      have t2 := hM.str.blk.thaw 2
      have t3 := hM.str.blk.thaw 3
      have t5 := hM.str.blk.thaw 5
      have k2 := hM.str.blk.cell (i := 2) rfl
      have k3 := hM.str.blk.cell (i := 3) rfl
      have k5 := hM.str.blk.cell (i := 5) rfl
      have hw : IntKind.i64.wrap ((r.fails : Int) + 1) = (r.fails : Int) + 1 := by rw [IntWalk.i64_in _ (by omega)]
      have e1 := hM.put (s' := s') (r' := { r with fs := lostTo keep r.fs i, on := false }) 2 (.bool true) rfl rfl rfl rfl hM.plan
      have e2 := e1.put (s' := s') (r' := { r with fs := lostTo keep r.fs i, on := false, fails := r.fails + 1 }) 3 (.int .i64 ((r.fails : Int) + 1)) rfl rfl rfl rfl e1.plan
      have hfs : lostTo keep r.fs i = (r.lose keep).fs := by rw [hie, HN.out, HL.out, lostTo_end]; rfl
      have e3 := e2.put (s' := s') (r' := r.lose keep) 5 (.bool false) rfl rfl rfl hfs.symm (fun _ _ hp => by cases hp)
      have hkb := (((Kb.set (rall br s') wr br 2 (.bool true) (.inl rfl)).trans (Kb.set (rall br s') _ br 3 (.int .i64 ((r.fails : Int) + 1)) (.inl rfl)) (fun _ h => .inl h)).trans (Kb.set (rall br s') _ br 5 (.bool false) (.inl rfl)) (fun _ h => .inl h))
      have hstep : RkS z wr _ br s' { r with fs := lostTo keep r.fs i } s' (r.lose keep) := ⟨e3, hkb, fun k hk => .inl hk⟩
      have HX := Lib.hid (hR.st.trans hstep)
      clear e1 e2 e3 hkb hstep hfs hM hR hie
      go_wp2_with fail
      go_end0
      exact ⟨rfl, s', HX.out⟩
end Go.Proofs.Ytkejoiknnigllaa
