/-
 Layer 15: the document's disk: how many bytes, the names, an operation counted, a file's bytes.
-/
import Derived.Test.YtagghghoimpofaaGreatDoorDkNames
import Derived.Test.YtagghghoimpofaaGreatDoorMonoDet
namespace Go.Proofs.YtagghghoimpofaaGreatDoor
open Go Go.RowKit Mono
set_option linter.unusedVariables false
set_option linter.unusedSimpArgs false
set_option maxRecDepth 100000
set_option maxHeartbeats 1000000

def sumTo (fs : List Fil) (k : Nat) : Nat := usedF (fs.take k)
theorem sumTo_step {fs : List Fil} {k : Nat} {f : Fil} (h : fs[k]? = some f) : sumTo fs (k + 1) = sumTo fs k + f.b.length := by
 unfold sumTo usedF
 rw [List.take_add_one, h]
 simp
theorem sumTo_le (fs : List Fil) (k : Nat) : sumTo fs k ≤ usedF fs := by
 have e : usedF fs = sumTo fs k + usedF (fs.drop k) := by
  unfold sumTo usedF
  rw [← List.sum_append, ← List.map_append, List.take_append_drop]
 omega
theorem sumTo_end (fs : List Fil) : sumTo fs fs.length = usedF fs := by unfold sumTo; rw [List.take_length]

theorem rused_any {z br : Nat} {W : World} {s : RSt} {r : Dk} (h : RkM z W br s r) (hok : r.Ok) :
  Calls Tryz.prog 59 #[.pointer (some ⟨br, 0, none⟩)] W fun e w' => e = .returned (.int .i64 (r.used : Int)) ∧ w' = W := by
 obtain ⟨A, c, hv, f1, f2, f3⟩ := h.form
 have k1 := h.str.blk.cell (i := 1) rfl
 rw [hv] at k1
 have HH := Lib.hid h
 have HL := Lib.hid h.len
 obtain ⟨n, hn⟩ : ∃ n, n = s.ms.length := ⟨_, rfl⟩
 rw [← hn] at k1 f1 f3 hv
 have HN := Lib.hid hn
 have HV := Lib.hid hv
 unfold maxLen at f2
 have hub : usedF r.fs ≤ 1073741824 := Nat.le_trans hok.used hok.room
 clear h hn hv hok
 go_enter Tryz.func59, Tryz.ntmps59
 go_wp2_with fail
 go_loopw [3, 4] (fun t i wr => ∃ k : Nat, k ≤ n ∧ i = .int .i64 k ∧ t = .int .i64 (sumTo r.fs k : Int) ∧ wr = W) (fun _ i _ => n - (intOf i).toNat)
 case atStart => exact ⟨0, Nat.zero_le _, rfl, by simp [sumTo, usedF], rfl⟩
 case round =>
  obtain ⟨i, hi, rfl, rfl, rfl⟩ := hrel
  by_cases hlt : i < n
  ·obtain ⟨g, rfl⟩ := f3 (by omega)
   obtain ⟨m, hm⟩ : ∃ m, s.ms[i]? = some m := ⟨_, List.getElem?_eq_getElem (by rw [← HN.out]; exact hlt)⟩
   obtain ⟨-, c1, -⟩ := HH.out.cells HV.out hm
   obtain ⟨A', c', hmv, -⟩ := (HH.out.bytes m (List.mem_of_getElem? hm)).bs.open_
   rw [hmv] at c1
   have hst := sumTo_step (HH.out.fil hm)
   have hfl : m.fil.b.length = m.b.length := rfl
   have hle := sumTo_le r.fs (i + 1)
   rw [hst, hfl] at hle
   have HST := Lib.hid hst
   obtain ⟨S, hS⟩ : ∃ S, S = sumTo r.fs i := ⟨_, rfl⟩
   rw [← hS] at hle ⊢
   have HS := Lib.hid hS
   have hw : IntKind.i64.wrap ((S : Int) + (m.b.length : Int)) = (S : Int) + (m.b.length : Int) := by rw [IntWalk.i64_in _ (by omega)]
   clear f3 hm hmv hst hfl hS
   go_wp2_with fail
   go_roundw
   case rel =>
    refine ⟨i + 1, by omega, by simp, ?_, by simp⟩
    rw [HST.out, ← HS.out]
    show _ = Value.int .i64 ((S + m.b.length : Nat) : Int)
    congr 1
   case measure => simp [intOf]; omega
  ·have hie : i = n := by omega
   have HR := Lib.hid (show sumTo r.fs i = r.used by rw [hie, HN.out, HL.out]; exact sumTo_end r.fs)
   clear hie
   go_wp2_with fail
   go_ret
   exact ⟨by rw [← HR.out]; rfl, rfl⟩
theorem rnames_any {z br : Nat} {W : World} {s : RSt} {r : Dk} (h : RkM z W br s r) (hok : r.Ok) :
  Calls Tryz.prog 57 #[.pointer (some ⟨br, 0, none⟩)] W fun e w' => ∃ v, e = .returned v ∧ Ss w' v (r.fs.map fun f => f.name) ∧ Ext W w' := by
 obtain ⟨i0, HI0, HZ00, HZ10, HZ20⟩ := info_parts infoStr
 obtain ⟨A, c, hv, f1, f2, f3⟩ := h.form
 have k1 := h.str.blk.cell (i := 1) rfl
 rw [hv] at k1
 have HH := Lib.hid h
 have HL := Lib.hid h.len
 obtain ⟨n, hn⟩ : ∃ n, n = s.ms.length := ⟨_, rfl⟩
 rw [← hn] at k1 f1 f3 hv
 have HN := Lib.hid hn
 have HV := Lib.hid hv
 unfold maxLen at f2
 have hfew : n ≤ 64 := by rw [HN.out, HL.out]; exact hok.few
 have HI := Lib.hid HI0
 have HZ0 := Lib.hid HZ00
 have HZ1 := Lib.hid HZ10
 have HZ2 := Lib.hid HZ20
 have hbr : br < W.heap.size := h.str.lt
 clear h hn hv hok HI0 HZ00 HZ10 HZ20
 go_enter Tryz.func57, Tryz.ntmps57
 go_wp2_with fail
 go_loopw [3, 4] (fun t i wr => ∃ k : Nat, k ≤ n ∧ i = .int .i64 k ∧ wr.ownsRow W.heap.size 9 1 t k (((r.fs.map fun f => f.name).take k).map strV) ∧ Ext W wr) (fun _ i _ => n - (intOf i).toNat)
 case atStart => exact ⟨0, Nat.zero_le _, rfl, by simpa using World.ownsRow_nil _ _ _ _, Ext.refl _⟩
 case round =>
  obtain ⟨i, hi, rfl, hrow, hx⟩ := hrel
  have HX := Lib.hid hx
  have k1' := (hx.cell (p := ⟨br, 1, none⟩) hbr).trans k1
  have hsz := hx.size
  by_cases hlt : i < n
  ·obtain ⟨g, rfl⟩ := f3 (by omega)
   obtain ⟨m, hm⟩ : ∃ m, s.ms[i]? = some m := ⟨_, List.getElem?_eq_getElem (by rw [← HN.out]; exact hlt)⟩
   obtain ⟨c0, -, -⟩ := (HH.out.ext hx).cells HV.out hm
   have hst : ((r.fs.map fun f => f.name).take (i + 1)).map strV = ((r.fs.map fun f => f.name).take i).map strV ++ [strV m.name] := by
    rw [List.take_add_one, List.getElem?_map, HH.out.fil hm]
    simp [RFil.fil]
   have HST := Lib.hid hst
   unfold strV at c0
   clear f3 hm hst hx
   go_wp2_with (at_builtin; refine wpList_append_own _ rfl (.tmp 14) (.tmp 23) 53 rfl W.heap.size 9 i0 (.string ⟨#[]⟩) 1 16 Tryz.underlying53 HI.out HZ0.out HZ1.out HZ2.out rfl (by decide) _ _ _ rfl (hrow.alloc _) ⟨wr.heap.size, 0, none⟩ 1 1 [strV m.name] rfl rfl (cell_one_new _ _ _) (by simp [Value.oneCell', strV]) (by unfold maxLen; omega) (by omega) (by simp; omega) ?_; intro v' w3 hown' hg3 hnil3; go_frame)
   go_roundw
   case rel =>
    refine ⟨i + 1, by omega, by simp, by rw [HST.out]; exact hown', ?_⟩
    have hlow := fun j (hj : _ = some j) => (hrow.lt j hj).1
    have e2 := HX.out.trans (ext_alloc wr (.cells #[strV m.name] 9))
    refine ⟨hg3.os.trans e2.os, hg3.tape.trans e2.tape, hg3.output.trans e2.output, Nat.le_trans e2.size hg3.size, fun k hk => (hg3.block k (Nat.lt_of_lt_of_le hk e2.size) (fun e => ?_)).trans (e2.block k hk)⟩
    have := hlow k e.symm
    omega
   case measure => simp [intOf]; omega
  ·have hie : i = n := by omega
   have HR := Lib.hid (show (r.fs.map fun f => f.name).take i = r.fs.map fun f => f.name by rw [List.take_of_length_le]; simp; rw [← HL.out, ← HN.out]; omega)
   have HE := Lib.hid (show i = (r.fs.map fun f => f.name).length by simp; rw [← HL.out, ← HN.out]; exact hie)
   have HROW := Lib.hid hrow
   clear hie hx hrow
   go_wp2_with fail
   go_ret
   refine ⟨_, rfl, ?_, HX.out⟩
   have := HROW.out
   rw [HR.out, HE.out] at this
   exact ss_of_row this

/-- Does the power fail in an operation? -/
theorem rcounted_any {z br : Nat} {W : World} {s : RSt} {r : Dk} (h : RkM z W br s r) (hsm : r.Small) :
  Calls Tryz.prog 88 #[.pointer (some ⟨br, 0, none⟩)] W fun e w' => (∀ k, r.dead = some k → e = .returned (.bool false) ∧ w' = W ∧ s.k = k) ∧ (r.dead = none → e = .returned (.bool true) ∧ ∃ n', RkS z W w' br s r { s with n := n' } r.tick) := by
 have k5 := h.str.blk.cell (i := 5) rfl
 have k6 := h.str.blk.cell (i := 6) rfl
 have k4 := h.str.blk.cell (i := 4) rfl
 have t6 := h.str.blk.thaw 6
 have t4 := h.str.blk.thaw 4
 have hw4 : IntKind.i64.wrap ((r.ops : Int) + 1) = ((r.ops + 1 : Nat) : Int) := by rw [IntWalk.i64_in _ (by have := hsm.cnt; omega)]; omega
 rcases hpl : r.plan with _ | ⟨n, k⟩
 ·have hd : r.dead = none := by simp [Dk.dead, hpl]
  have ht : r.tick = { r with ops := r.ops + 1 } := by simp [Dk.tick, hpl]
  rw [hpl] at k5
  simp only [Option.isSome_none] at k5
  have hP := h.put (s' := s) (r' := r.tick) 4 (.int .i64 ((r.ops + 1 : Nat) : Int)) (by rw [ht]; rfl) rfl rfl (by rw [ht]) (by rw [ht]; exact h.plan)
  have HX := Lib.hid (⟨hP, Kb.set (rall br s) W br 4 (.int .i64 ((r.ops + 1 : Nat) : Int)) (.inl rfl), fun k hk => .inl hk⟩ : RkS z W _ br s r { s with n := s.n } r.tick)
  have HD := Lib.hid hd
  clear hP h ht hd hpl
  go_enter Tryz.func88, Tryz.ntmps88
  go_wp2_with fail
  go_ret
  exact ⟨fun k hk => (by rw [HD.out] at hk; cases hk), fun _ => ⟨rfl, s.n, HX.out⟩⟩
 ·obtain ⟨hn0, hk0⟩ := h.plan n k hpl
  have hnb : n < 9223372036854775808 := hsm.plan n k hpl
  rw [hpl] at k5
  simp only [Option.isSome_some] at k5
  rw [hn0] at k6
  rcases n with _ | n
  ·have hd : r.dead = some k := by simp [Dk.dead, hpl]
   have HD := Lib.hid hd
   have HK := Lib.hid hk0
   simp only [Int.natCast_zero, Int.ofNat_zero] at k6
   clear h hd hpl hk0 hn0
   go_enter Tryz.func88, Tryz.ntmps88
   go_wp2_with fail
   go_ret
   exact ⟨fun k' hk => (by rw [HD.out] at hk; injection hk with hk; exact ⟨rfl, rfl, HK.out.trans hk⟩), fun hk => (by rw [HD.out] at hk; cases hk)⟩
  ·have hd : r.dead = none := by simp [Dk.dead, hpl]
   have ht : r.tick = { r with plan := some (n, k), ops := r.ops + 1 } := by simp [Dk.tick, hpl]
   have hwn : IntKind.i64.wrap (((n + 1 : Nat) : Int) - 1) = (n : Int) := by rw [IntWalk.i64_in _ (by omega)]; omega
   have hz0 : ¬ (((n + 1 : Nat) : Int) = 0) := by omega
   have h1 := h.put (s' := { s with n := (n : Int) }) (r' := { r with plan := some (n, k) }) 6 (.int .i64 (n : Int)) (by unfold rstr; rw [hpl]; rfl) rfl rfl rfl (fun a b hab => by injection hab with hab; injection hab with e1 e2; subst e1 e2; exact ⟨rfl, hk0⟩)
   have h2 := h1.put (s' := { s with n := (n : Int) }) (r' := r.tick) 4 (.int .i64 ((r.ops + 1 : Nat) : Int)) (by rw [ht]; rfl) rfl rfl (by rw [ht]) (by rw [ht]; exact h1.plan)
   have HX := Lib.hid (⟨h2, (Kb.set (rall br s) W br 6 (.int .i64 (n : Int)) (.inl rfl)).trans (Kb.set (rall br s) _ br 4 (.int .i64 ((r.ops + 1 : Nat) : Int)) (.inl rfl)) (fun _ h => .inl h), fun k hk => .inl hk⟩ : RkS z W _ br s r { s with n := (n : Int) } r.tick)
   have HD := Lib.hid hd
   clear h h1 h2 ht hd hpl hn0 hk0
   generalize ((n + 1 : Nat) : Int) = N1 at *
   go_enter Tryz.func88, Tryz.ntmps88
   go_wp2_with fail
   go_ret
   exact ⟨fun k hk => (by rw [HD.out] at hk; cases hk), fun _ => ⟨rfl, _, HX.out⟩⟩
theorem findZ_some {name : List UInt8} {fs : List Fil} {i : Nat} (h : findI name fs = some i) : findZ name fs = (i : Int) := by unfold findZ; rw [h]
theorem findZ_none {name : List UInt8} {fs : List Fil} (h : findI name fs = none) : findZ name fs = -1 := by unfold findZ; rw [h]
theorem rread_any {z br : Nat} {W : World} {s : RSt} {r : Dk} (h : RkM z W br s r) (hok : r.Ok) (name : List UInt8) :
  Calls Tryz.prog 50 #[.pointer (some ⟨br, 0, none⟩), strV name] W fun e w' => ∃ v, e = .returned (.tuple #[v, .int .i64 (((dRead r name).2 : Nat) : Int)]) ∧ OwB w' W.heap.size v (dRead r name).1 ∧ Ext W w' := by
 have HFI := Lib.hid (rfind_any h name)
 obtain ⟨A, c, hv, f1, f2, f3⟩ := h.form
 have k1 := h.str.blk.cell (i := 1) rfl
 rw [hv] at k1
 have HH := Lib.hid h
 have HL := Lib.hid h.len
 obtain ⟨n, hn⟩ : ∃ n, n = s.ms.length := ⟨_, rfl⟩
 rw [← hn] at k1 f1 f3 hv
 have HN := Lib.hid hn
 have HV := Lib.hid hv
 unfold maxLen at f2
 have k2 := h.str.blk.cell (i := 2) rfl
 unfold strV at HFI ⊢
 cases hon : r.on
 ·have hres : dRead r name = ([], 150) := by unfold dRead; simp [hon]
  rw [hres]
  rw [hon] at k2
  simp only [Bool.not_false] at k2
  clear h hn hv hok hon
  go_enter Tryz.func50, Tryz.ntmps50
  go_wp2_with fail
  go_ret2
  exact ⟨_, rfl, OwB.nil_ _ _, Ext.refl _⟩
 ·rw [hon] at k2
  simp only [Bool.not_true] at k2
  cases hfi : findI name r.fs with
  | none =>
   have hfn := (findI_spec name r.fs).2 hfi
   have hres : dRead r name = ([], 152) := by unfold dRead; simp [hon, hfn]
   rw [hres]
   rw [findZ_none hfi] at HFI
   clear h hn hv hok hon hfi hfn
   go_enter Tryz.func50, Tryz.ntmps50
   go_wp2_with fail
   refine HFI.out.mono ?_
   rintro e w1 ⟨rfl, rfl⟩
   go_wp2_with fail
   go_ret2
   exact ⟨_, rfl, OwB.nil_ _ _, Ext.refl _⟩
  | some i =>
   obtain ⟨f, hf1, hf2⟩ := (findI_spec name r.fs).1 i hfi
   have hres : dRead r name = (f.b, 0) := by unfold dRead; simp [hon, hf2]
   rw [hres]
   rw [findZ_some hfi] at HFI
   have hil : i < n := by rw [HN.out, HL.out]; exact (List.getElem?_eq_some_iff.1 hf1).1
   obtain ⟨g, rfl⟩ := f3 (by omega)
   obtain ⟨m, hm⟩ : ∃ m, s.ms[i]? = some m := ⟨_, List.getElem?_eq_getElem (by rw [← HN.out]; exact hil)⟩
   have hfe : f = m.fil := by have := HH.out.fil hm; rw [hf1] at this; injection this
   subst hfe
   have hmem := List.mem_of_getElem? hm
   obtain ⟨-, c1, -⟩ := (HH.out.ext (ext_alloc W (.cells #[] 5))).cells HV.out hm
   have k1a := (HH.out.ext (ext_alloc W (.cells #[] 5))).str.blk.cell (i := 1) rfl
   rw [HV.out] at k1a
   have HB := Lib.hid (HH.out.bytes m hmem).bs
   have hlen : m.b.length ≤ 1048576 := hok.len m.fil (List.mem_of_getElem? hf1)
   have hfb : m.fil.b = m.b := rfl
   rw [hfb]
   clear h hn hv hok hon hfi hf1 hf2 hm hmem f3 hres hfb
   go_enter Tryz.func50, Tryz.ntmps50
   go_wp2_with fail
   refine HFI.out.mono ?_
   rintro e w1 ⟨rfl, rfl⟩
   go_wp2_with (at_builtin; refine wpList_append_bs _ rfl (.tmp 16) (.tmp 24) rfl (OwB.empty_ w1 (Nat.le_refl _)) (HB.out.ext (ext_alloc _ _)) rfl rfl (by simp; omega) (by simp) ?_; intro v1 w2 hown1 hg1 hat1; have hb1 : Ext w1 w2 := Below.growB (ext_alloc w1 _) (OwB.empty_ w1 (Nat.le_refl _)) hg1 (Nat.le_refl _) (by simp))
   go_ret2
   exact ⟨_, rfl, by simpa using hown1, hb1⟩
end Go.Proofs.YtagghghoimpofaaGreatDoor

/-
 Layer 15: the document's disk: the power fails.
-/
namespace Go.Proofs.YtagghghoimpofaaGreatDoor
open Go Go.RowKit Mono
set_option linter.unusedVariables false
set_option linter.unusedSimpArgs false
set_option maxRecDepth 100000
set_option maxHeartbeats 1000000

theorem rcells_cons (a : RFil) (r : List RFil) : rcells (a :: r) = strV a.name :: a.v :: .int .i64 (a.sure : Int) :: rcells r := by unfold rcells; simp [RFil.cells]
theorem rcells_set0 : ∀ {ms : List RFil} {i : Nat} {m : RFil} (x : List UInt8), ms[i]? = some m → (rcells ms).set (i * 3) (strV x) = rcells (ms.set i { m with name := x })
 | [], i, m, x, h => by simp at h
 | a :: r, 0, m, x, h => by
  obtain rfl : a = m := by simpa using h
  simp [rcells_cons]
 | a :: r, i + 1, m, x, h => by
  rw [rcells_cons, List.set_cons_succ, rcells_cons, ← rcells_set0 x (show r[i]? = some m by simpa using h), show (i + 1) * 3 = i * 3 + 1 + 1 + 1 by omega]
  simp only [List.set_cons_succ]
theorem rcells_set1 : ∀ {ms : List RFil} {i : Nat} {m : RFil} (v : Value) (b : List UInt8), ms[i]? = some m → (rcells ms).set (i * 3 + 1) v = rcells (ms.set i { m with v := v, b := b })
 | [], i, m, x, b, h => by simp at h
 | a :: r, 0, m, x, b, h => by
  obtain rfl : a = m := by simpa using h
  simp [rcells_cons]
 | a :: r, i + 1, m, x, b, h => by
  rw [show ∀ y, (a :: r).set (i + 1) y = a :: r.set i y from fun _ => rfl, rcells_cons, rcells_cons, ← rcells_set1 x b (show r[i]? = some m by simpa using h), show (i + 1) * 3 + 1 = i * 3 + 1 + 1 + 1 + 1 by omega]
  simp only [List.set_cons_succ]
theorem rcells_set2 : ∀ {ms : List RFil} {i : Nat} {m : RFil} (k : Nat), ms[i]? = some m → (rcells ms).set (i * 3 + 2) (.int .i64 (k : Int)) = rcells (ms.set i { m with sure := k })
 | [], i, m, x, h => by simp at h
 | a :: r, 0, m, x, h => by
  obtain rfl : a = m := by simpa using h
  simp [rcells_cons]
 | a :: r, i + 1, m, x, h => by
  rw [show ∀ y, (a :: r).set (i + 1) y = a :: r.set i y from fun _ => rfl, rcells_cons, rcells_cons, ← rcells_set2 x (show r[i]? = some m by simpa using h), show (i + 1) * 3 + 2 = i * 3 + 2 + 1 + 1 + 1 by omega]
  simp only [List.set_cons_succ]
/-- The first k files are cut. -/
def lostTo (keep : Int) (fs : List Fil) (k : Nat) : List Fil := (fs.take k).map (Fil.lose keep) ++ fs.drop k
theorem lostTo_get {keep : Int} {fs : List Fil} {k : Nat} (h : k ≤ fs.length) : (lostTo keep fs k)[k]? = fs[k]? := by
 unfold lostTo
 rw [List.getElem?_append_right (by simp; omega)]
 simp
 congr 1
 omega
theorem lostTo_step {keep : Int} {fs : List Fil} {k : Nat} {f : Fil} (h : fs[k]? = some f) : (lostTo keep fs k).set k (f.lose keep) = lostTo keep fs (k + 1) := by
 have hk := (List.getElem?_eq_some_iff.1 h).1
 unfold lostTo
 have hl : ((fs.take k).map (Fil.lose keep)).length = k := by simp; omega
 rw [List.set_append_right _ _ (by rw [hl]; exact Nat.le_refl _), hl, Nat.sub_self, List.drop_eq_getElem_cons hk, List.set_cons_zero, List.take_add_one, h]
 simp
theorem lostTo_end (keep : Int) (fs : List Fil) : lostTo keep fs fs.length = fs.map (Fil.lose keep) := by unfold lostTo; simp
theorem RkS.fput {z br : Nat} {W : World} {s : RSt} {r r' : Dk} (h : RkM z W br s r) {g n c : Nat} (hv : s.v = .slice (some ⟨g, 0, none⟩) n c) {i : Nat} {m m' : RFil} (hm : s.ms[i]? = some m) (j : Nat) (u : Value)
  (hc : (rcells s.ms).set (i * 3 + j) u = rcells (s.ms.set i m')) (hbs : BsT z W m'.v m'.b) (hnb : ∀ k, m'.v.ownBlock = some k → rall br s k ∨ W.heap.size ≤ k) (hr : rstr r' s = rstr r s) (hp : r'.plan = r.plan) (hfs : (s.ms.set i m').map RFil.fil = r'.fs) :
  RkS z W (W.setCell ⟨g, i * 3 + j, none⟩ u) br s r { s with ms := s.ms.set i m' } r' := by
 refine ⟨h.fput hv hm j u hc hbs hr hp hfs, Kb.set (rall br s) W g (i * 3 + j) u (.inr (.inl (by rw [hv]; rfl))), fun k hk => ?_⟩
 rcases hk with rfl | hk | ⟨x, hx, hk⟩
 ·exact .inl (.inl rfl)
 ·exact .inl (.inr (.inl hk))
 ·rcases List.mem_or_eq_of_mem_set hx with hx | rfl
  ·exact .inl (.inr (.inr ⟨x, hx, hk⟩))
  ·exact hnb k hk
theorem RkM.frozen {z br : Nat} {W : World} {s : RSt} {r : Dk} (h : RkM z W br s r) {g n c : Nat} (hv : s.v = .slice (some ⟨g, 0, none⟩) n c) (j : Nat) : W.frozen? ⟨g, j, none⟩ = false := by
 obtain ⟨A, c', hf, _⟩ := h.form
 have hn : n = s.ms.length := by rw [hf] at hv; injection hv with _ hv _; exact hv.symm
 subst hn
 have hrow := h.row
 rw [hv] at hrow
 exact hrow.frozenAt j

theorem index_at3 {w : World} {o : Oper} {f : Operand → Value} {x y : Operand} {b c n i : Nat} (hop : o.op = .indexAddr 43 x y)
  (hx : f x = .slice (some ⟨b, 0, none⟩) n c) (hy : f y = .int .i64 (i : Int)) (hi : i < n) :
  (execOp f o).run Tryz.prog w = .ok (.value (.pointer (some ⟨b, i * 3, none⟩))) w := by
 have hi' : (i : Int) < (n : Int) := by omega
 have h0 : (0 : Int) ≤ (i : Int) := by omega
 have hk : (sizeOf 114).run Tryz.prog w = .ok 3 w := by kernel_rfl
 simp [execOp, hop, hx, hy, Instr.indexAt, run_underlying Tryz.underlying43, hi', h0, hk, add_at, go_sem]
 intro h
 omega
/-- What holds while files are cut. -/
structure RLs (z : Nat) (W : World) (br : Nat) (s : RSt) (r : Dk) (keep : Int) (k : Nat) (s' : RSt) (wr : World) : Prop where
 st : RkS z W wr br s r s' { r with fs := lostTo keep r.fs k }
 v : s'.v = s.v
 n : s'.n = s.n
 kk : s'.k = s.k
theorem rlose_any {z br : Nat} {W : World} {s : RSt} {r : Dk} (h : RkM z W br s r) (hok : r.Ok) (hsm : r.Small) (hz : z ≤ W.heap.size) (keep : Int) :
  Calls Tryz.prog 89 #[.pointer (some ⟨br, 0, none⟩), .int .i64 keep] W fun e w' => e = .returned (.tuple #[]) ∧ ∃ s', RkS z W w' br s r s' (r.lose keep) := by
 obtain ⟨A, cF, hv, f1, f2, f3⟩ := h.form
 have HH := Lib.hid h
 have HL := Lib.hid h.len
 obtain ⟨n, hn⟩ : ∃ n, n = s.ms.length := ⟨_, rfl⟩
 rw [← hn] at f1 f3 hv
 have HN := Lib.hid hn
 have HV0 := Lib.hid hv
 unfold maxLen at f2
 have HOK := Lib.hid hok
 have hcnt := hsm.cnt
 clear h hn hv hok hsm
 go_enter Tryz.func89, Tryz.ntmps89
 go_wp2_with fail
 go_loopw [4] (fun iv wr => ∃ (k : Nat) (s' : RSt), k ≤ n ∧ iv = .int .i64 k ∧ RLs z W br s r keep k s' wr) (fun iv _ => n - (intOf iv).toNat)
 case atStart => exact ⟨0, s, Nat.zero_le _, rfl, ⟨RkS.refl (by have := HH.out; simpa [lostTo] using this), rfl, rfl, rfl⟩⟩
 case round =>
  obtain ⟨i, s', hi, rfl, hR⟩ := hrel
  have hM := hR.st.rk
  have hln : s'.ms.length = n := by
   have := hM.len
   simp [lostTo] at this
   rw [this, HN.out, HL.out]
   omega
  have k1 := hM.str.blk.cell (i := 1) rfl
  rw [hR.v, HV0.out] at k1
  have HR := Lib.hid hR
  by_cases hlt : i < n
  ·obtain ⟨g, rfl⟩ := f3 (by omega)
   obtain ⟨m, hm⟩ : ∃ m, s'.ms[i]? = some m := ⟨_, List.getElem?_eq_getElem (by omega)⟩
   have hfil : r.fs[i]? = some m.fil := by
    have := hM.fil hm
    rw [← lostTo_get (keep := keep) (by rw [← HL.out, ← HN.out]; exact hi)]
    exact this
   have hmf := List.mem_of_getElem? hfil
   have hsure : m.sure ≤ m.b.length := HOK.out.sure m.fil hmf
   have hlen : m.b.length ≤ 1048576 := HOK.out.len m.fil hmf
   obtain ⟨c0, c1', c2⟩ := hM.cells (hR.v.trans HV0.out) hm
   obtain ⟨A1, c1, hmv, j1, j2, -, -⟩ := (hM.bytes m (List.mem_of_getElem? hm)).bs.open_
   rw [hmv] at c1'
   obtain ⟨N, hN⟩ : ∃ N, N = keepN keep m.fil := ⟨_, rfl⟩
   have hN1 : (N : Int) = (m.sure : Int) + max 0 (min keep ((m.b.length : Int) - (m.sure : Int))) := by
    rw [hN]
    unfold keepN RFil.fil
    dsimp only
    omega
   have hN2 : N ≤ m.b.length := by omega
   have HN1 := Lib.hid hN1
   have HNN := Lib.hid hN
   have HFIL := Lib.hid hfil
   have HMM := Lib.hid hm
   have HV := Lib.hid (hR.v.trans HV0.out)
   have HNL := Lib.hid hN2
   have hbs0 := (hM.bytes m (List.mem_of_getElem? hm)).bs
   rw [hmv] at hbs0
   have HBS := Lib.hid hbs0
   obtain ⟨d, hd⟩ : ∃ d : Int, d = (m.b.length : Int) - (m.sure : Int) := ⟨_, rfl⟩
   obtain ⟨e1, he1⟩ : ∃ e : Int, e = min keep d := ⟨_, rfl⟩
   obtain ⟨e2, he2⟩ : ∃ e : Int, e = max 0 e1 := ⟨_, rfl⟩
   have hsum : IntKind.i64.wrap ((m.sure : Int) + e2) = (N : Int) := by
    have : (N : Int) = (m.sure : Int) + e2 := by rw [hN1, he2, he1, hd]
    rw [IntWalk.i64_in _ (by omega), this]
   have hmin : ∀ (w' : World) (ts : Array TypeId) (t : TypeId), (Builtin.min_ ts t #[.int .i64 keep, .int .i64 d]).run Tryz.prog w' = .ok (.int .i64 e1) w' := fun w' ts t => by
    rw [run_min_int2, he1]
    congr 2
    split <;> omega
   have hmax : ∀ (w' : World) (ts : Array TypeId) (t : TypeId), (Builtin.max_ ts t #[.int .i64 0, .int .i64 e1]).run Tryz.prog w' = .ok (.int .i64 e2) w' := fun w' ts t => by
    rw [run_max_int2, he2]
    congr 2
    split <;> omega
   have hw31 : IntKind.i64.wrap ((m.b.length : Int) - (m.sure : Int)) = d := by rw [IntWalk.i64_in _ (by omega), hd]
   have HBX := Lib.hid (Blk.new wr #[strV m.name, .slice A1 m.b.length c1, .int .i64 (m.sure : Int)] 114)
   have HM1 := Lib.hid (hM.ext (ext_alloc wr (.cells #[strV m.name, .slice A1 m.b.length c1, .int .i64 (m.sure : Int)] 114)))
   have HX1 := Lib.hid (ext_alloc wr (.cells #[strV m.name, .slice A1 m.b.length c1, .int .i64 (m.sure : Int)] 114))
   unfold strV at c0 HBX HM1 HX1
   clear hM hR hm hfil hmf hmv hN hN1 hd he1 he2 f3 hbs0 hN2
   go_wp2_with fail
   obtain ⟨pb, hpb⟩ : ∃ p, p = wr.heap.size := ⟨_, rfl⟩
   obtain ⟨Wb, hWb⟩ : ∃ w, w = wr.alloc (.cells #[.string ⟨m.name.toArray⟩, .slice A1 m.b.length c1, .int .i64 (m.sure : Int)] 114) := ⟨_, rfl⟩
   have BX := Lib.hid (show Blk Wb pb [strV m.name, .slice A1 m.b.length c1, .int .i64 (m.sure : Int)] by rw [hWb, hpb]; exact HBX.out)
   replace HM1 := Lib.hid (show RkM z Wb br s' _ by rw [hWb]; exact HM1.out)
   replace HX1 := Lib.hid (show Ext wr Wb by rw [hWb]; exact HX1.out)
   replace HBS := Lib.hid (HBS.out.ext HX1.out)
   rw [← hpb, ← hWb]
   clear hpb hWb HBX hmin hmax hsum hw31 k1 c0 c1' c2
   refine wp_region_turns 3 [(0, 2, false), (0, 2, false), (0, 2, false), (0, 2, false), (0, 2, false), (0, 2, false), (0, 2, false), (0, 0, true), (0, 2, false), (0, 2, false), (0, 2, false), (0, 1, false), (1, 1, true), (0, 2, false), (2, 2, false), (2, 2, false), (2, 2, true)] (fun w0 c => match c with | 0 => w0 | 1 => w0.alloc (.cells #[] 5) | 2 => resW ((Builtin.append_ #[34, 34] 34 #[.slice (some ⟨w0.heap.size, 0, none⟩) 0 0, .slice A1 N c1]).run Tryz.prog (w0.alloc (.cells #[] 5))) (w0.alloc (.cells #[] 5)) | _ => (((resW ((Builtin.append_ #[34, 34] 34 #[.slice (some ⟨w0.heap.size, 0, none⟩) 0 0, .slice A1 N c1]).run Tryz.prog (w0.alloc (.cells #[] 5))) (w0.alloc (.cells #[] 5))).setCell ⟨g, i * 3, none⟩ (strV m.name)).setCell ⟨g, i * 3 + 1, none⟩ (resV ((Builtin.append_ #[34, 34] 34 #[.slice (some ⟨w0.heap.size, 0, none⟩) 0 0, .slice A1 N c1]).run Tryz.prog (w0.alloc (.cells #[] 5))))).setCell ⟨g, i * 3 + 2, none⟩ (.int .i64 (N : Int))) (by kernel_rfl) (by kernel_rfl) (by kernel_rfl) (fun _ => rfl) ?_
   intro w0 ws hext hsz hws
   have q0 : ws 0 = w0 := hws 0
   have q1 : ws 1 = w0.alloc (.cells #[] 5) := hws 1
   have q2 : ws 2 = resW ((Builtin.append_ #[34, 34] 34 #[.slice (some ⟨w0.heap.size, 0, none⟩) 0 0, .slice A1 N c1]).run Tryz.prog (w0.alloc (.cells #[] 5))) (w0.alloc (.cells #[] 5)) := hws 2
   have q3 : ws 3 = (((resW ((Builtin.append_ #[34, 34] 34 #[.slice (some ⟨w0.heap.size, 0, none⟩) 0 0, .slice A1 N c1]).run Tryz.prog (w0.alloc (.cells #[] 5))) (w0.alloc (.cells #[] 5))).setCell ⟨g, i * 3, none⟩ (strV m.name)).setCell ⟨g, i * 3 + 1, none⟩ (resV ((Builtin.append_ #[34, 34] 34 #[.slice (some ⟨w0.heap.size, 0, none⟩) 0 0, .slice A1 N c1]).run Tryz.prog (w0.alloc (.cells #[] 5))))).setCell ⟨g, i * 3 + 2, none⟩ (.int .i64 (N : Int)) := hws 3
   clear hws
   have hM0 := HM1.out.ext hext
   have bxw0 := BX.out.ext hext
   have hx01 := ext_alloc w0 (.cells #[] 5)
   obtain ⟨i0, hi0, hz0, hz1, hz2⟩ := info_parts infoU8
   obtain ⟨v', W2, hrun, hown, hgrow, -⟩ := run_append_sl (P := Tryz.prog) (w := w0.alloc (.cells #[] 5)) w0.heap.size 34 34 5 i0 (.int .u8 0) 1 Tryz.underlying34 hi0 hz0 hz1 hz2 rfl (OwB.empty_ w0 (Nat.le_refl _)) (((HBS.out.ext hext).upto HNL.out).ext hx01) bv_one (by unfold maxLen; simp; omega) (by simp; omega) (by simp)
   have hx02 : Ext w0 W2 := Below.growB hx01 (OwB.empty_ w0 (Nat.le_refl _)) hgrow (Nat.le_refl _) (by simp)
   have hown' : OwB W2 w0.heap.size v' (m.b.take N) := by
    have h := hown
    simp only [List.map_nil, List.nil_append] at h
    exact h
   obtain ⟨A3, c3, rfl, -⟩ := hown'.bs.open_
   obtain ⟨L3, hL3⟩ : ∃ n, n = (m.b.take N).length := ⟨_, rfl⟩
   rw [← hL3] at hown' hrun
   clear hL3
   rw [hrun] at q2 q3
   simp only [resW, resV] at q2 q3
   have brw0 := hM0.str.blk
   simp only [rstr, HV.out] at brw0
   have brw1 := brw0.ext hx01
   have brw2 := brw0.ext hx02
   have bxw1 := bxw0.ext hx01
   have bxw2 := bxw0.ext hx02
   have hM2 := hM0.ext hx02
   obtain ⟨d0, d1, d2⟩ := hM2.cells HV.out HMM.out
   have z0 := hM2.frozen HV.out (i * 3)
   have z1 := hM2.frozen HV.out (i * 3 + 1)
   have z2 := hM2.frozen HV.out (i * 3 + 2)
   refine detT_pure rfl (.pointer (some ⟨br, 0, none⟩)) (fun _ _ => rfl) ?_ ?_
   ·rintro ρ ⟨h0, -⟩ w'
    have e0 : ρ 0 = .pointer (some ⟨br, 0, none⟩) := h0
    simp [execOp, evR, e0, go_sem]
   refine detT_pure rfl (.pointer (some ⟨br, 0, none⟩)) (fun _ _ => rfl) ?_ ?_
   ·rintro ρ ⟨h35, -⟩ w'
    have e35 : ρ 35 = .pointer (some ⟨br, 0, none⟩) := h35
    simp [execOp, evR, e35, go_sem]
   refine detT_pure rfl (.pointer (some ⟨br, 1, none⟩)) (fun _ _ => rfl) ?_ ?_
   ·rintro ρ ⟨h36, -⟩ w'
    have e36 : ρ 36 = .pointer (some ⟨br, 0, none⟩) := h36
    simp [execOp, evR, e36, go_sem]
   refine detT_read rfl (.slice (some ⟨g, 0, none⟩) n cF) (fun _ _ => rfl) ?_ ?_
   ·rintro ρ ⟨h37, -⟩ c hc1 hc2
    have e37 : ρ 37 = .pointer (some ⟨br, 1, none⟩) := h37
    have hc : c = 0 ∨ c = 1 ∨ c = 2 := by have h1 : 0 ≤ c := hc1; have h2 : c ≤ 2 := hc2; omega
    rcases hc with rfl | rfl | rfl
    ·rw [q0]
     have c := brw0.cell (i := 1) rfl
     simp [execOp, evR, e37, c, go_sem]
    ·rw [q1]
     have c := brw1.cell (i := 1) rfl
     simp [execOp, evR, e37, c, go_sem]
    ·rw [q2]
     have c := brw2.cell (i := 1) rfl
     simp [execOp, evR, e37, c, go_sem]
   refine detT_pure rfl (.int .i64 (i : Int)) (fun _ _ => rfl) ?_ ?_
   ·rintro ρ ⟨h4, -⟩ w'
    have e4 : ρ 4 = .int .i64 (i : Int) := h4
    simp [execOp, evR, e4, go_sem]
   refine detT_pure rfl (.pointer (some ⟨pb, 0, none⟩)) (fun _ _ => rfl) ?_ ?_
   ·rintro ρ ⟨h5, -⟩ w'
    have e5 : ρ 5 = .pointer (some ⟨pb, 0, none⟩) := h5
    simp [execOp, evR, e5, go_sem]
   refine detT_read rfl (strV m.name) (fun _ _ => rfl) ?_ ?_
   ·rintro ρ ⟨h40, -⟩ c hc1 hc2
    have e40 : ρ 40 = .pointer (some ⟨pb, 0, none⟩) := h40
    have hc : c = 0 ∨ c = 1 ∨ c = 2 := by have h1 : 0 ≤ c := hc1; have h2 : c ≤ 2 := hc2; omega
    rcases hc with rfl | rfl | rfl
    ·rw [q0]
     have c := bxw0.cell (i := 0) rfl
     simp [execOp, evR, e40, c, go_sem]
    ·rw [q1]
     have c := bxw1.cell (i := 0) rfl
     simp [execOp, evR, e40, c, go_sem]
    ·rw [q2]
     have c := bxw2.cell (i := 0) rfl
     simp [execOp, evR, e40, c, go_sem]
   refine detT_turn rfl (.slice (some ⟨w0.heap.size, 0, none⟩) 0 0) (fun _ _ => rfl) ?_ ?_
   ·rintro ρ -
    show (execOp (evR ρ) _).run Tryz.prog (ws 0) = .ok (.value _) (ws 1)
    rw [q0, q1]
    simp [execOp, evR, go_sem]
   refine detT_pure rfl (.pointer (some ⟨pb, 1, none⟩)) (fun _ _ => rfl) ?_ ?_
   ·rintro ρ ⟨h5, -⟩ w'
    have e5 : ρ 5 = .pointer (some ⟨pb, 0, none⟩) := h5
    simp [execOp, evR, e5, go_sem]
   refine detT_read rfl (.slice A1 m.b.length c1) (fun _ _ => rfl) ?_ ?_
   ·rintro ρ ⟨h43, -⟩ c hc1 hc2
    have e43 : ρ 43 = .pointer (some ⟨pb, 1, none⟩) := h43
    have hc : c = 0 ∨ c = 1 ∨ c = 2 := by have h1 : 0 ≤ c := hc1; have h2 : c ≤ 2 := hc2; omega
    rcases hc with rfl | rfl | rfl
    ·rw [q0]
     have c := bxw0.cell (i := 1) rfl
     simp [execOp, evR, e43, c, go_sem]
    ·rw [q1]
     have c := bxw1.cell (i := 1) rfl
     simp [execOp, evR, e43, c, go_sem]
    ·rw [q2]
     have c := bxw2.cell (i := 1) rfl
     simp [execOp, evR, e43, c, go_sem]
   refine detT_pure rfl (.int .i64 (N : Int)) (fun _ _ => rfl) ?_ ?_
   ·rintro ρ ⟨h6, -⟩ w'
    have e6 : ρ 6 = .int .i64 (N : Int) := h6
    simp [execOp, evR, e6, go_sem]
   refine detT_pure rfl (.slice A1 N c1) (fun _ _ => rfl) ?_ ?_
   ·rintro ρ ⟨h44, h45, -⟩ w'
    have e44 : ρ 44 = .slice A1 m.b.length c1 := h44
    have e45 : ρ 45 = .int .i64 (N : Int) := h45
    have q1 : (0 : Int) ≤ (N : Int) := by omega
    have q2 : (N : Int) ≤ (c1 : Int) := by have := HNL.out; omega
    simp [execOp, evR, e44, e45, q1, q2, go_sem]
   refine detT_turn rfl (.slice A3 L3 c3) (fun _ _ => rfl) ?_ ?_
   ·rintro ρ ⟨h42, h46, -⟩
    have e42 : ρ 42 = .slice (some ⟨w0.heap.size, 0, none⟩) 0 0 := h42
    have e46 : ρ 46 = .slice A1 N c1 := h46
    show (execOp (evR ρ) _).run Tryz.prog (ws 1) = .ok (.value _) (ws 2)
    rw [q1, q2]
    simp only [execOp, resolve, invoke, builtin, evR, List.map_toArray, List.map_cons, List.map_nil, e42, e46, Sem.run_bind, Sem.run_pure, Result.andThen_ok, hrun]
   refine detT_pure rfl (.int .i64 (N : Int)) (fun _ _ => rfl) ?_ ?_
   ·rintro ρ ⟨h6, -⟩ w'
    have e6 : ρ 6 = .int .i64 (N : Int) := h6
    simp [execOp, evR, e6, go_sem]
   refine detT_pure rfl (.agg #[strV m.name, .slice A3 L3 c3, .int .i64 (N : Int)]) (fun _ _ => rfl) ?_ ?_
   ·rintro ρ ⟨h41, h47, h48, -⟩ w'
    have e41 : ρ 41 = strV m.name := h41
    have e47 : ρ 47 = .slice A3 L3 c3 := h47
    have e48 : ρ 48 = .int .i64 (N : Int) := h48
    unfold strV at e41 ⊢
    simp [execOp, evR, e41, e47, e48, go_sem]
   refine detT_pure rfl (.pointer (some ⟨g, i * 3, none⟩)) (fun _ _ => rfl) ?_ ?_
   ·rintro ρ ⟨h38, h39, -⟩ w'
    have e38 : ρ 38 = .slice (some ⟨g, 0, none⟩) n cF := h38
    have e39 : ρ 39 = .int .i64 (i : Int) := h39
    exact index_at3 rfl e38 e39 (by omega)
   refine detT_store rfl (fun _ _ => rfl) ?_ ?_
   ·rintro ρ ⟨h50, h49, -⟩
    have e50 : ρ 50 = .pointer (some ⟨g, i * 3, none⟩) := h50
    have e49 : ρ 49 = .agg #[strV m.name, .slice A3 L3 c3, .int .i64 (N : Int)] := h49
    show (execOp (evR ρ) _).run Tryz.prog (ws 2) = .ok .skip (ws 3)
    rw [q2, q3]
    unfold strV at d0 e49 ⊢
    simp [execOp, evR, e50, e49, d0, d1, d2, z0, z1, z2, go_sem]
   simp only [DetT, applyV, Act.put, List.setIfInBounds_toArray, List.set_cons_zero, List.set_cons_succ]
   rw [q3]
   have hzz : z ≤ w0.heap.size := Nat.le_trans hz (Nat.le_trans HR.out.st.kb.size (Nat.le_trans HX1.out.size hext.size))
   have hbn : BsT z W2 (.slice A3 L3 c3) (m.b.take N) := ⟨hown'.bs, fun j hj => ⟨Nat.le_trans hzz ((BsT.of_owb hown').typed j hj).1, ((BsT.of_owb hown').typed j hj).2⟩⟩
   have hnew : ∀ j, (Value.slice A3 L3 c3).ownBlock = some j → w0.heap.size ≤ j := fun j hj => ((BsT.of_owb hown').typed j hj).1
   have hil : i < s'.ms.length := (List.getElem?_eq_some_iff.1 HMM.out).1
   have hsame : s'.ms.set i m = s'.ms := by
    apply List.ext_getElem?
    intro j
    rw [List.getElem?_set]
    split
    ·rename_i hij
     subst hij
     first | rw [HMM.out, if_pos hil] | rw [HMM.out]
    ·rfl
   have a0 := hM2.fput (m' := { m with name := m.name }) (r' := { r with fs := lostTo keep r.fs i }) HV.out HMM.out 0 (strV m.name) (rcells_set0 m.name HMM.out) (hM2.bytes m (List.mem_of_getElem? HMM.out)) rfl rfl (by rw [show ({ m with name := m.name } : RFil) = m from rfl, hsame]; exact HR.out.st.rk.fs)
   have hg1 : (s'.ms.set i m)[i]? = some m := by rw [List.getElem?_set_self hil]
   have hb1 := hbn.kb (Kb.set (fun k => k = g) W2 g (i * 3) (strV m.name) rfl) (fun j hj e => hM2.bne (by rw [HV.out]; rfl) hbn j hj e)
   have a1 := a0.fput (i := i) (m := m) (m' := { m with v := .slice A3 L3 c3, b := m.b.take N }) (r' := { r with fs := ((s'.ms.set i m).set i { m with v := .slice A3 L3 c3, b := m.b.take N }).map RFil.fil }) HV.out hg1 1 (.slice A3 L3 c3) (rcells_set1 _ _ hg1) hb1 rfl rfl rfl
   have hg2 : ((s'.ms.set i m).set i ({ m with v := .slice A3 L3 c3, b := m.b.take N } : RFil))[i]? = some { m with v := .slice A3 L3 c3, b := m.b.take N } := by rw [List.getElem?_set_self (by simpa using hil)]
   have hfin : (((s'.ms.set i m).set i ({ m with v := .slice A3 L3 c3, b := m.b.take N } : RFil)).set i { m with v := .slice A3 L3 c3, b := m.b.take N, sure := N }).map RFil.fil = lostTo keep r.fs (i + 1) := by
    rw [List.set_set, List.set_set, List.map_set, HR.out.st.rk.fs, ← lostTo_step HFIL.out]
    congr 1
    show (⟨m.name, m.b.take N, N⟩ : Fil) = Fil.lose keep m.fil
    rw [HNN.out]
    rfl
   have a2 := a1.fput (i := i) (m := { m with v := .slice A3 L3 c3, b := m.b.take N }) (m' := { m with v := .slice A3 L3 c3, b := m.b.take N, sure := N }) (r' := { r with fs := lostTo keep r.fs (i + 1) }) HV.out hg2 2 (.int .i64 (N : Int)) (rcells_set2 (i := i) (m := { m with v := .slice A3 L3 c3, b := m.b.take N }) N hg2) (a1.bytes { m with v := .slice A3 L3 c3, b := m.b.take N } (List.mem_of_getElem? hg2)) rfl rfl hfin
   have hgv : s'.v.ownBlock = some g := by rw [HV.out]; rfl
   have hkb := (((Kb.of_ext (fp := rall br s') ((HX1.out.trans hext).trans hx02)).trans (Kb.set (rall br s') W2 g (i * 3) (strV m.name) (.inr (.inl hgv))) (fun _ h => .inl h)).trans (Kb.set (rall br s') _ g (i * 3 + 1) (.slice A3 L3 c3) (.inr (.inl hgv))) (fun _ h => .inl h)).trans (Kb.set (rall br s') _ g (i * 3 + 2) (.int .i64 (N : Int)) (.inr (.inl hgv))) (fun _ h => .inl h)
   have hstep : RkS z wr _ br s' { r with fs := lostTo keep r.fs i } { s' with ms := ((s'.ms.set i m).set i ({ m with v := .slice A3 L3 c3, b := m.b.take N } : RFil)).set i { m with v := .slice A3 L3 c3, b := m.b.take N, sure := N } } { r with fs := lostTo keep r.fs (i + 1) } := ⟨a2, hkb, fun k hk => by
    rw [List.set_set, List.set_set] at hk
    rcases hk with rfl | hk | ⟨x, hx, hk⟩
    ·exact .inl (.inl rfl)
    ·exact .inl (.inr (.inl hk))
    ·rcases List.mem_or_eq_of_mem_set hx with hx | rfl
     ·exact .inl (.inr (.inr ⟨x, hx, hk⟩))
     ·exact .inr (Nat.le_trans (Nat.le_trans HX1.out.size hext.size) (hnew k hk))⟩
   have HFIN := Lib.hid (⟨HR.out.st.trans hstep, HR.out.v, HR.out.n, HR.out.kk⟩ : RLs z W br s r keep (i + 1) _ _)
   clear a0 a1 a2 hstep hkb hfin hg1 hg2 hb1 hsame hbn hnew hown' hown hrun hgrow brw0 brw1 brw2 bxw0 bxw1 bxw2 hM2 hM0 d0 d1 d2 z0 z1 z2 q0 q1 q2 q3
   unfold strV at HFIN ⊢
   go_wp2_with fail
   go_roundw
   case rel => exact ⟨i + 1, _, by omega, by simp, HFIN.out⟩
   case measure => simp [intOf]; omega
  ·have hie : i = n := by omega
   have HIE := Lib.hid hie
   have t2 := hM.str.blk.thaw 2
   have t3 := hM.str.blk.thaw 3
   have t5 := hM.str.blk.thaw 5
   have k2 := hM.str.blk.cell (i := 2) rfl
   have k3 := hM.str.blk.cell (i := 3) rfl
   have k5 := hM.str.blk.cell (i := 5) rfl
   have hw : IntKind.i64.wrap ((r.fails : Int) + 1) = (r.fails : Int) + 1 := by rw [IntWalk.i64_in _ (by omega)]
   have e1 := hM.put (s' := s') (r' := { r with fs := lostTo keep r.fs i, on := false }) 2 (.bool true) rfl rfl rfl rfl hM.plan
   have e2 := e1.put (s' := s') (r' := { r with fs := lostTo keep r.fs i, on := false, fails := r.fails + 1 }) 3 (.int .i64 ((r.fails : Int) + 1)) rfl rfl rfl rfl e1.plan
   have hfs : lostTo keep r.fs i = (r.lose keep).fs := by rw [hie, HN.out, HL.out, lostTo_end]; rfl
   have e3 := e2.put (s' := s') (r' := r.lose keep) 5 (.bool false) rfl rfl rfl hfs.symm (fun _ _ hp => by cases hp)
   have hkb := (((Kb.set (rall br s') wr br 2 (.bool true) (.inl rfl)).trans (Kb.set (rall br s') _ br 3 (.int .i64 ((r.fails : Int) + 1)) (.inl rfl)) (fun _ h => .inl h)).trans (Kb.set (rall br s') _ br 5 (.bool false) (.inl rfl)) (fun _ h => .inl h))
   have hstep : RkS z wr _ br s' { r with fs := lostTo keep r.fs i } s' (r.lose keep) := ⟨e3, hkb, fun k hk => .inl hk⟩
   have HX := Lib.hid (hR.st.trans hstep)
   clear e1 e2 e3 hkb hstep hfs hM hR hie
   go_wp2_with fail
   go_end0
   exact ⟨rfl, s', HX.out⟩
end Go.Proofs.YtagghghoimpofaaGreatDoor

/-
 Layer 15: Fail, Sync, Cut of the document's disk.
-/
namespace Go.Proofs.YtagghghoimpofaaGreatDoor
open Go Go.RowKit Mono
set_option linter.unusedVariables false
set_option linter.unusedSimpArgs false
set_option maxRecDepth 100000
set_option maxHeartbeats 1000000

theorem rfail_any {z br : Nat} {W : World} {s : RSt} {r : Dk} (h : RkM z W br s r) (hok : r.Ok) (hsm : r.Small) (hz : z ≤ W.heap.size) (keep : Int) :
  Calls Tryz.prog 65 #[.pointer (some ⟨br, 0, none⟩), .int .i64 keep] W (RkPost z W br s r (dFail r keep)) := by
 have HH := Lib.hid h
 have k2 := h.str.blk.cell (i := 2) rfl
 have HL := Lib.hid (rlose_any h hok hsm hz keep)
 cases hon : r.on
 ·have hres : dFail r keep = (r, 150) := by unfold dFail; rw [if_pos hon]
  rw [hres]
  rw [hon] at k2
  simp only [Bool.not_false] at k2
  clear h hon
  go_enter Tryz.func65, Tryz.ntmps65
  go_wp2_with fail
  go_ret
  exact RkPost.same HH.out (Ext.refl _) 150
 ·have hres : dFail r keep = (r.lose keep, 0) := by unfold dFail; rw [if_neg (by simp [hon])]
  rw [hres]
  rw [hon] at k2
  simp only [Bool.not_true] at k2
  clear h hon
  go_enter Tryz.func65, Tryz.ntmps65
  go_wp2_with fail
  refine HL.out.mono ?_
  rintro e w1 ⟨rfl, s', hs⟩
  have HS := Lib.hid hs
  clear hs
  go_wp2_with fail
  go_ret
  exact ⟨s', rfl, HS.out⟩
theorem RkPost.lost {z br : Nat} {W W' : World} {s s' : RSt} {r r1 : Dk} {k : Int} {act : Dk → Dk} (hd : r1.dead = some k) (h : RkS z W W' br s r s' (r1.lose k)) : RkPost z W br s r (r1.count act) (.returned (.int .i64 150)) W' := by
 rw [Dk.count_eq, hd]
 exact ⟨s', rfl, h⟩
theorem RkPost.acted {z br : Nat} {W W' : World} {s s' : RSt} {r r1 : Dk} {act : Dk → Dk} (hd : r1.dead = none) (h : RkS z W W' br s r s' (act r1.tick)) : RkPost z W br s r (r1.count act) (.returned (.int .i64 0)) W' := by
 rw [Dk.count_eq, hd]
 exact ⟨s', rfl, h⟩
theorem set_fil {ms : List RFil} {i : Nat} {m m' : RFil} {name : List UInt8} {g : Fil → Fil} {fs : List Fil} (hfs : ms.map RFil.fil = fs) (hm : ms[i]? = some m) (hi : findI name fs = some i) (hs : fs.Pairwise fun a b => a.name ≠ b.name) (hg : m'.fil = g m.fil) : (ms.set i m').map RFil.fil = updF name g fs := by
 have hn : m.fil.name = name := by
  unfold findI at hi
  have := (List.findIdx?_eq_some_iff_getElem.1 hi).2.1
  have he : fs[i]? = some m.fil := by rw [← hfs, List.getElem?_map, hm]; rfl
  have hlt := (List.getElem?_eq_some_iff.1 he).1
  rw [(List.getElem?_eq_some_iff.1 he).2] at this
  simpa using this
 have hl : i < ms.length := (List.getElem?_eq_some_iff.1 hm).1
 rw [List.map_set, hfs, hg]
 apply List.ext_getElem?
 intro j
 unfold updF
 rw [List.getElem?_map, List.getElem?_set]
 have he : fs[i]? = some m.fil := by rw [← hfs, List.getElem?_map, hm]; rfl
 have hil := (List.getElem?_eq_some_iff.1 he).1
 by_cases hij : i = j
 ·subst hij
  rw [if_pos rfl, if_pos hil, he]
  simp [hn]
 ·rw [if_neg hij]
  cases hj : fs[j]? with
  | none => rfl
  | some f =>
   have hne : ¬ (f.name == name) = true := by
    intro hfn
    have hfn : f.name = name := by simpa using hfn
    have hjl := (List.getElem?_eq_some_iff.1 hj).1
    have hje := (List.getElem?_eq_some_iff.1 hj).2
    have hie := (List.getElem?_eq_some_iff.1 he).2
    rcases Nat.lt_or_ge i j with h1 | h1
    ·have := List.pairwise_iff_getElem.1 hs i j hil hjl h1
     rw [hje, hie] at this
     exact this (hn.trans hfn.symm)
    ·have := List.pairwise_iff_getElem.1 hs j i hjl hil (by omega)
     rw [hje, hie] at this
     exact this (hfn.trans hn.symm)
   rw [Option.map_some, if_neg hne]
theorem Dk.Ok.apart {d : Dk} (h : d.Ok) : d.fs.Pairwise fun a b => a.name ≠ b.name := h.sorted.imp fun {a b} hab e => by rw [e, bl_irrefl] at hab; cases hab

theorem rsync_any {z br : Nat} {W : World} {s : RSt} {r : Dk} (h : RkM z W br s r) (hok : r.Ok) (hsm : r.Small) (hz : z ≤ W.heap.size) (name : List UInt8) :
  Calls Tryz.prog 54 #[.pointer (some ⟨br, 0, none⟩), strV name] W (RkPost z W br s r (dSync r name)) := by
 have HFI := Lib.hid (rfind_any h name)
 obtain ⟨A, cF, hv, f1, f2, f3⟩ := h.form
 have k1 := h.str.blk.cell (i := 1) rfl
 rw [hv] at k1
 have k2 := h.str.blk.cell (i := 2) rfl
 have k7 := h.str.blk.cell (i := 7) rfl
 have HH := Lib.hid h
 have HL := Lib.hid h.len
 obtain ⟨n, hn⟩ : ∃ n, n = s.ms.length := ⟨_, rfl⟩
 rw [← hn] at k1 f1 f3 hv
 have HN := Lib.hid hn
 have HV := Lib.hid hv
 have HOK := Lib.hid hok
 have HSM := Lib.hid hsm
 have HC := Lib.hid (rcounted_any h hsm)
 unfold maxLen at f2
 unfold strV at HFI ⊢
 clear h hn hv hok hsm
 cases hon : r.on
 ·have hres : dSync r name = (r, 150) := by unfold dSync; rw [if_pos hon]
  rw [hres]
  rw [hon] at k2
  simp only [Bool.not_false] at k2
  clear hon
  go_enter Tryz.func54, Tryz.ntmps54
  go_wp2_with fail
  go_ret
  exact RkPost.same HH.out (Ext.refl _) 150
 ·rw [hon] at k2
  simp only [Bool.not_true] at k2
  have HON := Lib.hid hon
  clear hon
  cases hfi : findI name r.fs with
  | none =>
   have hfn := (findI_spec name r.fs).2 hfi
   have hres : dSync r name = (r, 152) := by unfold dSync; rw [if_neg (by simp [HON.out]), hfn]
   rw [hres]
   rw [findZ_none hfi] at HFI
   clear hfi hfn
   go_enter Tryz.func54, Tryz.ntmps54
   go_wp2_with fail
   refine HFI.out.mono ?_
   rintro e w1 ⟨rfl, rfl⟩
   go_wp2_with fail
   go_ret
   exact RkPost.same HH.out (Ext.refl _) 152
  | some i =>
   obtain ⟨f, hf1, hf2⟩ := (findI_spec name r.fs).1 i hfi
   rw [findZ_some hfi] at HFI
   have hil : i < n := by rw [HN.out, HL.out]; exact (List.getElem?_eq_some_iff.1 hf1).1
   obtain ⟨g, rfl⟩ := f3 (by omega)
   obtain ⟨m, hm⟩ : ∃ m, s.ms[i]? = some m := ⟨_, List.getElem?_eq_getElem (by rw [← HN.out]; exact hil)⟩
   have hfe : f = m.fil := by have := HH.out.fil hm; rw [hf1] at this; injection this
   subst hfe
   obtain ⟨A1, c1, hmv, j1, j2, -, -⟩ := (HH.out.bytes m (List.mem_of_getElem? hm)).bs.open_
   have hlen : m.b.length ≤ 1048576 := HOK.out.len m.fil (List.mem_of_getElem? hf1)
   have hsure : m.sure ≤ m.b.length := HOK.out.sure m.fil (List.mem_of_getElem? hf1)
   have HFIE := Lib.hid hfi
   have HMM := Lib.hid hm
   have HMV := Lib.hid hmv
   have HF1 := Lib.hid hf1
   have HF2 := Lib.hid hf2
   have HFB := Lib.hid (show m.fil.b = m.b from rfl)
   clear hfi hm hmv hf1 hf2 f3
   have hres : dSync r name = r.count fun d => d.upd name fun f => { f with sure := f.b.length } := by unfold dSync; rw [if_neg (by simp [HON.out]), HF2.out]
   rw [hres]
   cases hd : r.dead with
   | some k =>
    have HD := Lib.hid hd
    have HC1 := Lib.hid (HC.out.mono (fun e w' hx => hx.1 k hd))
    have HLO := Lib.hid (rlose_any HH.out HOK.out HSM.out hz k)
    clear hd
    go_enter Tryz.func54, Tryz.ntmps54
    go_wp2_with fail
    refine HFI.out.mono ?_
    rintro e w1 ⟨rfl, rfl⟩
    go_wp2_with fail
    refine HC1.out.mono ?_
    rintro e w1 ⟨rfl, rfl, hk⟩
    rw [hk] at k7
    clear hk
    go_wp2_with fail
    refine HLO.out.mono ?_
    rintro e w2 ⟨rfl, s', hs⟩
    have HS := Lib.hid hs
    clear hs
    go_wp2_with fail
    go_ret
    exact RkPost.lost HD.out HS.out
   | none =>
    have HD := Lib.hid hd
    have HC1 := Lib.hid (HC.out.mono (fun e w' hx => hx.2 hd))
    clear hd
    go_enter Tryz.func54, Tryz.ntmps54
    go_wp2_with fail
    refine HFI.out.mono ?_
    rintro e w1 ⟨rfl, rfl⟩
    go_wp2_with fail
    refine HC1.out.mono ?_
    rintro e w1 ⟨rfl, n', hs⟩
    have HS := Lib.hid hs
    have kk1 : w1.cell? ⟨br, 1, none⟩ = some s.v := hs.rk.str.blk.cell (i := 1) rfl
    rw [HV.out] at kk1
    clear hs
    go_wp2_with fail
    refine wp_region_turns 1 [(0, 0, false), (0, 0, false), (0, 0, false), (0, 0, false), (0, 0, false), (0, 0, false), (0, 0, false), (0, 0, false), (0, 0, false), (0, 0, false), (0, 0, false), (0, 0, false), (0, 0, false), (0, 0, false), (0, 1, false), (0, 0, false), (0, 0, true)] (fun w0 c => match c with | 0 => w0 | _ => w0.setCell ⟨g, i * 3 + 2, none⟩ (.int .i64 (m.b.length : Int))) (by kernel_rfl) (by kernel_rfl) (by kernel_rfl) (fun _ => rfl) ?_
    intro w0 ws hext hsz hws
    have q0 : ws 0 = w0 := hws 0
    have q1 : ws 1 = w0.setCell ⟨g, i * 3 + 2, none⟩ (.int .i64 (m.b.length : Int)) := hws 1
    clear hws
    have hM0 := HS.out.rk.ext hext
    have brw0 := hM0.str.blk
    simp only [rstr, HV.out] at brw0
    obtain ⟨d0, d1, d2⟩ := hM0.cells (s := { s with n := n' }) HV.out HMM.out
    rw [HMV.out] at d1
    have z2 := hM0.frozen (s := { s with n := n' }) HV.out (i * 3 + 2)
    refine detT_pure rfl (.pointer (some ⟨br, 0, none⟩)) (fun _ _ => rfl) ?_ ?_
    ·rintro ρ ⟨h0, -⟩ w'
     have e0 : ρ 0 = .pointer (some ⟨br, 0, none⟩) := h0
     simp [execOp, evR, e0, go_sem]
    refine detT_pure rfl (.pointer (some ⟨br, 0, none⟩)) (fun _ _ => rfl) ?_ ?_
    ·rintro ρ ⟨h24, -⟩ w'
     have e24 : ρ 24 = .pointer (some ⟨br, 0, none⟩) := h24
     simp [execOp, evR, e24, go_sem]
    refine detT_pure rfl (.pointer (some ⟨br, 1, none⟩)) (fun _ _ => rfl) ?_ ?_
    ·rintro ρ ⟨h25, -⟩ w'
     have e25 : ρ 25 = .pointer (some ⟨br, 0, none⟩) := h25
     simp [execOp, evR, e25, go_sem]
    refine detT_read rfl (.slice (some ⟨g, 0, none⟩) n cF) (fun _ _ => rfl) ?_ ?_
    ·rintro ρ ⟨h26, -⟩ c hc1 hc2
     have e26 : ρ 26 = .pointer (some ⟨br, 1, none⟩) := h26
     have hc : c = 0 := by have h1 : 0 ≤ c := hc1; have h2 : c ≤ 0 := hc2; omega
     rcases hc with rfl
     ·rw [q0]
      have c := brw0.cell (i := 1) rfl
      simp [execOp, evR, e26, c, go_sem]
    refine detT_pure rfl (.int .i64 (i : Int)) (fun _ _ => rfl) ?_ ?_
    ·rintro ρ ⟨h5, -⟩ w'
     have e5 : ρ 5 = .int .i64 (i : Int) := h5
     simp [execOp, evR, e5, go_sem]
    refine detT_pure rfl (.pointer (some ⟨br, 0, none⟩)) (fun _ _ => rfl) ?_ ?_
    ·rintro ρ ⟨h0, -⟩ w'
     have e0 : ρ 0 = .pointer (some ⟨br, 0, none⟩) := h0
     simp [execOp, evR, e0, go_sem]
    refine detT_pure rfl (.pointer (some ⟨br, 0, none⟩)) (fun _ _ => rfl) ?_ ?_
    ·rintro ρ ⟨h29, -⟩ w'
     have e29 : ρ 29 = .pointer (some ⟨br, 0, none⟩) := h29
     simp [execOp, evR, e29, go_sem]
    refine detT_pure rfl (.pointer (some ⟨br, 1, none⟩)) (fun _ _ => rfl) ?_ ?_
    ·rintro ρ ⟨h30, -⟩ w'
     have e30 : ρ 30 = .pointer (some ⟨br, 0, none⟩) := h30
     simp [execOp, evR, e30, go_sem]
    refine detT_read rfl (.slice (some ⟨g, 0, none⟩) n cF) (fun _ _ => rfl) ?_ ?_
    ·rintro ρ ⟨h31, -⟩ c hc1 hc2
     have e31 : ρ 31 = .pointer (some ⟨br, 1, none⟩) := h31
     have hc : c = 0 := by have h1 : 0 ≤ c := hc1; have h2 : c ≤ 0 := hc2; omega
     rcases hc with rfl
     ·rw [q0]
      have c := brw0.cell (i := 1) rfl
      simp [execOp, evR, e31, c, go_sem]
    refine detT_pure rfl (.int .i64 (i : Int)) (fun _ _ => rfl) ?_ ?_
    ·rintro ρ ⟨h5, -⟩ w'
     have e5 : ρ 5 = .int .i64 (i : Int) := h5
     simp [execOp, evR, e5, go_sem]
    refine detT_pure rfl (.pointer (some ⟨g, i * 3, none⟩)) (fun _ _ => rfl) ?_ ?_
    ·rintro ρ ⟨h32, h33, -⟩ w'
     have e32 : ρ 32 = .slice (some ⟨g, 0, none⟩) n cF := h32
     have e33 : ρ 33 = .int .i64 (i : Int) := h33
     exact index_at3 rfl e32 e33 (by omega)
    refine detT_pure rfl (.pointer (some ⟨g, i * 3 + 1, none⟩)) (fun _ _ => rfl) ?_ ?_
    ·rintro ρ ⟨h34, -⟩ w'
     have e34 : ρ 34 = .pointer (some ⟨g, i * 3, none⟩) := h34
     simp [execOp, evR, e34, go_sem]
    refine detT_read rfl (.slice A1 m.b.length c1) (fun _ _ => rfl) ?_ ?_
    ·rintro ρ ⟨h35, -⟩ c hc1 hc2
     have e35 : ρ 35 = .pointer (some ⟨g, i * 3 + 1, none⟩) := h35
     have hc : c = 0 := by have h1 : 0 ≤ c := hc1; have h2 : c ≤ 0 := hc2; omega
     rcases hc with rfl
     ·rw [q0]
      simp [execOp, evR, e35, d1, go_sem]
    refine detT_pure rfl (.int .i64 (m.b.length : Int)) (fun _ _ => rfl) ?_ ?_
    ·rintro ρ ⟨h36, -⟩ w'
     have e36 : ρ 36 = .slice A1 m.b.length c1 := h36
     simp [execOp, evR, e36, go_sem]
    refine detT_pure rfl (.pointer (some ⟨g, i * 3, none⟩)) (fun _ _ => rfl) ?_ ?_
    ·rintro ρ ⟨h27, h28, -⟩ w'
     have e27 : ρ 27 = .slice (some ⟨g, 0, none⟩) n cF := h27
     have e28 : ρ 28 = .int .i64 (i : Int) := h28
     exact index_at3 rfl e27 e28 (by omega)
    refine detT_pure rfl (.pointer (some ⟨g, i * 3 + 2, none⟩)) (fun _ _ => rfl) ?_ ?_
    ·rintro ρ ⟨h38, -⟩ w'
     have e38 : ρ 38 = .pointer (some ⟨g, i * 3, none⟩) := h38
     simp [execOp, evR, e38, go_sem]
    refine detT_store rfl (fun _ _ => rfl) ?_ ?_
    ·rintro ρ ⟨h39, h37, -⟩
     have e39 : ρ 39 = .pointer (some ⟨g, i * 3 + 2, none⟩) := h39
     have e37 : ρ 37 = .int .i64 (m.b.length : Int) := h37
     show (execOp (evR ρ) _).run Tryz.prog (ws 0) = .ok .skip (ws 1)
     rw [q0, q1]
     simp [execOp, evR, e39, e37, d2, z2, go_sem]
    simp only [DetT, applyV, Act.put, List.setIfInBounds_toArray, List.set_cons_zero, List.set_cons_succ]
    rw [q1]
    have hfs := set_fil (m' := { m with sure := m.b.length }) (g := fun f => { f with sure := f.b.length }) HS.out.rk.fs HMM.out (show findI name r.tick.fs = some i by rw [tick_fs]; exact HFIE.out) (by rw [tick_fs]; exact HOK.out.apart) rfl
    have a0 := RkS.fput (m' := { m with sure := m.b.length }) (r' := r.tick.upd name fun f => { f with sure := f.b.length }) hM0 HV.out HMM.out 2 (.int .i64 (m.b.length : Int)) (rcells_set2 (m := m) m.b.length HMM.out) (hM0.bytes m (List.mem_of_getElem? HMM.out)) (fun k hk => .inl (.inr (.inr ⟨m, List.mem_of_getElem? HMM.out, hk⟩))) rfl rfl hfs
    have HX := Lib.hid ((HS.out.trans (RkS.ext HS.out.rk hext)).trans a0)
    clear a0 hfs brw0 d0 d1 d2 z2 hM0
    go_wp2_with fail
    go_ret
    exact RkPost.acted HD.out HX.out
end Go.Proofs.YtagghghoimpofaaGreatDoor

/-
 Layer 15: Cut of the document's disk.
-/
namespace Go.Proofs.YtagghghoimpofaaGreatDoor
open Go Go.RowKit Mono
set_option linter.unusedVariables false
set_option linter.unusedSimpArgs false
set_option maxRecDepth 100000
set_option maxHeartbeats 2000000
theorem rcut_any {z br : Nat} {W : World} {s : RSt} {r : Dk} (h : RkM z W br s r) (hok : r.Ok) (hsm : r.Small) (hz : z ≤ W.heap.size) (name : List UInt8) (nn : Int) :
  Calls Tryz.prog 53 #[.pointer (some ⟨br, 0, none⟩), strV name, .int .i64 nn] W (RkPost z W br s r (dCut r name nn)) := by
 have HFI := Lib.hid (rfind_any h name)
 obtain ⟨A, cF, hv, f1, f2, f3⟩ := h.form
 have k1 := h.str.blk.cell (i := 1) rfl
 rw [hv] at k1
 have k2 := h.str.blk.cell (i := 2) rfl
 have k7 := h.str.blk.cell (i := 7) rfl
 have HH := Lib.hid h
 have HL := Lib.hid h.len
 obtain ⟨n, hn⟩ : ∃ n, n = s.ms.length := ⟨_, rfl⟩
 rw [← hn] at k1 f1 f3 hv
 have HN := Lib.hid hn
 have HV := Lib.hid hv
 have HOK := Lib.hid hok
 have HSM := Lib.hid hsm
 have HC := Lib.hid (rcounted_any h hsm)
 unfold maxLen at f2
 unfold strV at HFI ⊢
 clear h hn hv hok hsm
 cases hon : r.on
 ·have hres : dCut r name nn = (r, 150) := by unfold dCut; rw [if_pos hon]
  rw [hres]
  rw [hon] at k2
  simp only [Bool.not_false] at k2
  clear hon
  go_enter Tryz.func53, Tryz.ntmps53
  go_wp2_with fail
  go_ret
  exact RkPost.same HH.out (Ext.refl _) 150
 ·rw [hon] at k2
  simp only [Bool.not_true] at k2
  have HON := Lib.hid hon
  clear hon
  cases hfi : findI name r.fs with
  | none =>
   have hfn := (findI_spec name r.fs).2 hfi
   have hres : dCut r name nn = (r, 152) := by unfold dCut; rw [if_neg (by simp [HON.out]), hfn]
   rw [hres]
   rw [findZ_none hfi] at HFI
   clear hfi hfn
   go_enter Tryz.func53, Tryz.ntmps53
   go_wp2_with fail
   refine HFI.out.mono ?_
   rintro e w1 ⟨rfl, rfl⟩
   go_wp2_with fail
   go_ret
   exact RkPost.same HH.out (Ext.refl _) 152
  | some i =>
   obtain ⟨f, hf1, hf2⟩ := (findI_spec name r.fs).1 i hfi
   rw [findZ_some hfi] at HFI
   have hil : i < n := by rw [HN.out, HL.out]; exact (List.getElem?_eq_some_iff.1 hf1).1
   obtain ⟨g, rfl⟩ := f3 (by omega)
   obtain ⟨m, hm⟩ : ∃ m, s.ms[i]? = some m := ⟨_, List.getElem?_eq_getElem (by rw [← HN.out]; exact hil)⟩
   have hfe : f = m.fil := by have := HH.out.fil hm; rw [hf1] at this; injection this
   subst hfe
   obtain ⟨A1, c1, hmv, j1, j2, -, -⟩ := (HH.out.bytes m (List.mem_of_getElem? hm)).bs.open_
   have hlen : m.b.length ≤ 1048576 := HOK.out.len m.fil (List.mem_of_getElem? hf1)
   have hsure : m.sure ≤ m.b.length := HOK.out.sure m.fil (List.mem_of_getElem? hf1)
   have HFIE := Lib.hid hfi
   have HMM := Lib.hid hm
   have HMV := Lib.hid hmv
   have HF1 := Lib.hid hf1
   have HF2 := Lib.hid hf2
   have HFB := Lib.hid (show m.fil.b = m.b from rfl)
   clear hfi hm hmv hf1 hf2 f3
   have hb1 := (HH.out.bytes m (List.mem_of_getElem? HMM.out)).bs
   rw [HMV.out] at hb1
   have HBS0 := Lib.hid hb1
   clear hb1
   obtain ⟨-, cv, -⟩ := HH.out.cells HV.out HMM.out
   rw [HMV.out] at cv
   by_cases hn0 : nn < 0
   ·have hres : dCut r name nn = (r, 2) := by
     unfold dCut
     rw [if_neg (by simp [HON.out]), HF2.out]
     dsimp only
     rw [if_pos (show nn < 0 ∨ (m.fil.b.length : Int) < nn from .inl hn0)]
    rw [hres]
    go_enter Tryz.func53, Tryz.ntmps53
    go_wp2_with fail
    refine HFI.out.mono ?_
    rintro e w1 ⟨rfl, rfl⟩
    go_wp2_with fail
    go_ret
    exact RkPost.same HH.out (Ext.refl _) 2
   by_cases hnl : (m.b.length : Int) < nn
   ·have hres : dCut r name nn = (r, 2) := by
     unfold dCut
     rw [if_neg (by simp [HON.out]), HF2.out]
     dsimp only
     rw [if_pos (show nn < 0 ∨ (m.fil.b.length : Int) < nn from .inr hnl)]
    rw [hres]
    go_enter Tryz.func53, Tryz.ntmps53
    go_wp2_with fail
    refine HFI.out.mono ?_
    rintro e w1 ⟨rfl, rfl⟩
    go_wp2_with fail
    go_ret
    exact RkPost.same HH.out (Ext.refl _) 2
   obtain ⟨N, rfl⟩ : ∃ N : Nat, nn = (N : Int) := ⟨nn.toNat, by omega⟩
   have hn1 : N ≤ m.b.length := by omega
   have hres : dCut r name (N : Int) = r.count (fun d : Dk => d.upd name fun f => ⟨f.name, f.b.take ((N : Int)).toNat, min f.sure ((N : Int)).toNat⟩) := by
    unfold dCut
    rw [if_neg (by simp [HON.out]), HF2.out]
    dsimp only
    rw [if_neg (show ¬ ((N : Int) < 0 ∨ (m.fil.b.length : Int) < (N : Int)) from fun h => h.elim hn0 hnl)]
   rw [hres]
   cases hd : r.dead with
   | some k =>
    have HD := Lib.hid hd
    have HC1 := Lib.hid (HC.out.mono (fun e w' hx => hx.1 k hd))
    have HLO := Lib.hid (rlose_any HH.out HOK.out HSM.out hz k)
    clear hd
    go_enter Tryz.func53, Tryz.ntmps53
    go_wp2_with fail
    refine HFI.out.mono ?_
    rintro e w1 ⟨rfl, rfl⟩
    go_wp2_with fail
    refine HC1.out.mono ?_
    rintro e w1 ⟨rfl, rfl, hk⟩
    rw [hk] at k7
    clear hk
    go_wp2_with fail
    refine HLO.out.mono ?_
    rintro e w2 ⟨rfl, s', hs⟩
    have HS := Lib.hid hs
    clear hs
    go_wp2_with fail
    go_ret
    exact RkPost.lost HD.out HS.out
   | none =>
    have HD := Lib.hid hd
    have HC1 := Lib.hid (HC.out.mono (fun e w' hx => hx.2 hd))
    clear hd
    go_enter Tryz.func53, Tryz.ntmps53
    go_wp2_with fail
    refine HFI.out.mono ?_
    rintro e w1 ⟨rfl, rfl⟩
    go_wp2_with fail
    refine HC1.out.mono ?_
    rintro e w1 ⟨rfl, n', hs⟩
    have HS := Lib.hid hs
    have kk1 : w1.cell? ⟨br, 1, none⟩ = some s.v := hs.rk.str.blk.cell (i := 1) rfl
    rw [HV.out] at kk1
    clear hs
    go_wp2_with fail
    have HBS := Lib.hid (show Bs w1 (.slice A1 m.b.length c1) m.b by have := (HS.out.rk.bytes m (List.mem_of_getElem? HMM.out)).bs; rw [HMV.out] at this; exact this)
    refine wp_region_turns 3 [(0, 2, false), (0, 2, false), (0, 2, false), (0, 2, false), (0, 2, false), (0, 0, true), (0, 2, false), (0, 2, false), (0, 2, false), (0, 2, false), (0, 2, false), (0, 2, false), (0, 2, false), (0, 2, false), (0, 2, false), (0, 1, false), (1, 1, true), (2, 3, false), (2, 2, false), (2, 2, true)] (fun w0 c => match c with | 0 => w0 | 1 => w0.alloc (.cells #[] 5) | 2 => resW ((Builtin.append_ #[34, 34] 34 #[.slice (some ⟨w0.heap.size, 0, none⟩) 0 0, .slice A1 N c1]).run Tryz.prog (w0.alloc (.cells #[] 5))) (w0.alloc (.cells #[] 5)) | _ => (resW ((Builtin.append_ #[34, 34] 34 #[.slice (some ⟨w0.heap.size, 0, none⟩) 0 0, .slice A1 N c1]).run Tryz.prog (w0.alloc (.cells #[] 5))) (w0.alloc (.cells #[] 5))).setCell ⟨g, i * 3 + 1, none⟩ (resV ((Builtin.append_ #[34, 34] 34 #[.slice (some ⟨w0.heap.size, 0, none⟩) 0 0, .slice A1 N c1]).run Tryz.prog (w0.alloc (.cells #[] 5))))) (by kernel_rfl) (by kernel_rfl) (by kernel_rfl) (fun _ => rfl) ?_
    intro w0 ws hext hsz hws
    have q0 : ws 0 = w0 := hws 0
    have q1 : ws 1 = w0.alloc (.cells #[] 5) := hws 1
    have q2 : ws 2 = resW ((Builtin.append_ #[34, 34] 34 #[.slice (some ⟨w0.heap.size, 0, none⟩) 0 0, .slice A1 N c1]).run Tryz.prog (w0.alloc (.cells #[] 5))) (w0.alloc (.cells #[] 5)) := hws 2
    have q3 : ws 3 = (resW ((Builtin.append_ #[34, 34] 34 #[.slice (some ⟨w0.heap.size, 0, none⟩) 0 0, .slice A1 N c1]).run Tryz.prog (w0.alloc (.cells #[] 5))) (w0.alloc (.cells #[] 5))).setCell ⟨g, i * 3 + 1, none⟩ (resV ((Builtin.append_ #[34, 34] 34 #[.slice (some ⟨w0.heap.size, 0, none⟩) 0 0, .slice A1 N c1]).run Tryz.prog (w0.alloc (.cells #[] 5)))) := hws 3
    clear hws
    have hM0 := HS.out.rk.ext hext
    have hx01 := ext_alloc w0 (.cells #[] 5)
    obtain ⟨i0, hi0, hz0, hz1, hz2⟩ := info_parts infoU8
    obtain ⟨v', W2, hrun, hown, hgrow, -⟩ := run_append_sl (P := Tryz.prog) (w := w0.alloc (.cells #[] 5)) w0.heap.size 34 34 5 i0 (.int .u8 0) 1 Tryz.underlying34 hi0 hz0 hz1 hz2 rfl (OwB.empty_ w0 (Nat.le_refl _)) (((HBS.out.ext hext).upto hn1).ext hx01) bv_one (by unfold maxLen; simp; omega) (by simp; omega) (by simp)
    have hx02 : Ext w0 W2 := Below.growB hx01 (OwB.empty_ w0 (Nat.le_refl _)) hgrow (Nat.le_refl _) (by simp)
    have hown' : OwB W2 w0.heap.size v' (m.b.take N) := by
     have h := hown
     simp only [List.map_nil, List.nil_append] at h
     exact h
    obtain ⟨A3, c3, rfl, -⟩ := hown'.bs.open_
    obtain ⟨L3, hL3⟩ : ∃ n, n = (m.b.take N).length := ⟨_, rfl⟩
    rw [← hL3] at hown' hrun
    clear hL3
    rw [hrun] at q2 q3
    simp only [resW, resV] at q2 q3
    have brw0 := hM0.str.blk
    simp only [rstr, HV.out] at brw0
    have brw1 := brw0.ext hx01
    have brw2 := brw0.ext hx02
    have hM2 := hM0.ext hx02
    obtain ⟨d0, d1, d2⟩ := hM2.cells (s := { s with n := n' }) HV.out HMM.out
    obtain ⟨-, x1, -⟩ := hM0.cells (s := { s with n := n' }) HV.out HMM.out
    obtain ⟨-, y1, -⟩ := (hM0.ext hx01).cells (s := { s with n := n' }) HV.out HMM.out
    rw [HMV.out] at d1 x1 y1
    have z1 := hM2.frozen (s := { s with n := n' }) HV.out (i * 3 + 1)
    refine detT_pure rfl (.pointer (some ⟨br, 0, none⟩)) (fun _ _ => rfl) ?_ ?_
    ·rintro ρ ⟨h0, -⟩ w'
     have e0 : ρ 0 = .pointer (some ⟨br, 0, none⟩) := h0
     simp [execOp, evR, e0, go_sem]
    refine detT_pure rfl (.pointer (some ⟨br, 0, none⟩)) (fun _ _ => rfl) ?_ ?_
    ·rintro ρ ⟨h41, -⟩ w'
     have e41 : ρ 41 = .pointer (some ⟨br, 0, none⟩) := h41
     simp [execOp, evR, e41, go_sem]
    refine detT_pure rfl (.pointer (some ⟨br, 1, none⟩)) (fun _ _ => rfl) ?_ ?_
    ·rintro ρ ⟨h42, -⟩ w'
     have e42 : ρ 42 = .pointer (some ⟨br, 0, none⟩) := h42
     simp [execOp, evR, e42, go_sem]
    refine detT_read rfl (.slice (some ⟨g, 0, none⟩) n cF) (fun _ _ => rfl) ?_ ?_
    ·rintro ρ ⟨h43, -⟩ c hc1 hc2
     have e43 : ρ 43 = .pointer (some ⟨br, 1, none⟩) := h43
     have hc : c = 0 ∨ c = 1 ∨ c = 2 := by have h1 : 0 ≤ c := hc1; have h2 : c ≤ 2 := hc2; omega
     rcases hc with rfl | rfl | rfl
     ·rw [q0]
      have c := brw0.cell (i := 1) rfl
      simp [execOp, evR, e43, c, go_sem]
     ·rw [q1]
      have c := brw1.cell (i := 1) rfl
      simp [execOp, evR, e43, c, go_sem]
     ·rw [q2]
      have c := brw2.cell (i := 1) rfl
      simp [execOp, evR, e43, c, go_sem]
    refine detT_pure rfl (.int .i64 (i : Int)) (fun _ _ => rfl) ?_ ?_
    ·rintro ρ ⟨h7, -⟩ w'
     have e7 : ρ 7 = .int .i64 (i : Int) := h7
     simp [execOp, evR, e7, go_sem]
    refine detT_turn rfl (.slice (some ⟨w0.heap.size, 0, none⟩) 0 0) (fun _ _ => rfl) ?_ ?_
    ·rintro ρ -
     show (execOp (evR ρ) _).run Tryz.prog (ws 0) = .ok (.value _) (ws 1)
     rw [q0, q1]
     simp [execOp, evR, go_sem]
    refine detT_pure rfl (.pointer (some ⟨br, 0, none⟩)) (fun _ _ => rfl) ?_ ?_
    ·rintro ρ ⟨h0, -⟩ w'
     have e0 : ρ 0 = .pointer (some ⟨br, 0, none⟩) := h0
     simp [execOp, evR, e0, go_sem]
    refine detT_pure rfl (.pointer (some ⟨br, 0, none⟩)) (fun _ _ => rfl) ?_ ?_
    ·rintro ρ ⟨h47, -⟩ w'
     have e47 : ρ 47 = .pointer (some ⟨br, 0, none⟩) := h47
     simp [execOp, evR, e47, go_sem]
    refine detT_pure rfl (.pointer (some ⟨br, 1, none⟩)) (fun _ _ => rfl) ?_ ?_
    ·rintro ρ ⟨h48, -⟩ w'
     have e48 : ρ 48 = .pointer (some ⟨br, 0, none⟩) := h48
     simp [execOp, evR, e48, go_sem]
    refine detT_read rfl (.slice (some ⟨g, 0, none⟩) n cF) (fun _ _ => rfl) ?_ ?_
    ·rintro ρ ⟨h49, -⟩ c hc1 hc2
     have e49 : ρ 49 = .pointer (some ⟨br, 1, none⟩) := h49
     have hc : c = 0 ∨ c = 1 ∨ c = 2 := by have h1 : 0 ≤ c := hc1; have h2 : c ≤ 2 := hc2; omega
     rcases hc with rfl | rfl | rfl
     ·rw [q0]
      have c := brw0.cell (i := 1) rfl
      simp [execOp, evR, e49, c, go_sem]
     ·rw [q1]
      have c := brw1.cell (i := 1) rfl
      simp [execOp, evR, e49, c, go_sem]
     ·rw [q2]
      have c := brw2.cell (i := 1) rfl
      simp [execOp, evR, e49, c, go_sem]
    refine detT_pure rfl (.int .i64 (i : Int)) (fun _ _ => rfl) ?_ ?_
    ·rintro ρ ⟨h7, -⟩ w'
     have e7 : ρ 7 = .int .i64 (i : Int) := h7
     simp [execOp, evR, e7, go_sem]
    refine detT_pure rfl (.pointer (some ⟨g, i * 3, none⟩)) (fun _ _ => rfl) ?_ ?_
    ·rintro ρ ⟨h50, h51, -⟩ w'
     have e50 : ρ 50 = .slice (some ⟨g, 0, none⟩) n cF := h50
     have e51 : ρ 51 = .int .i64 (i : Int) := h51
     exact index_at3 rfl e50 e51 (by omega)
    refine detT_pure rfl (.pointer (some ⟨g, i * 3 + 1, none⟩)) (fun _ _ => rfl) ?_ ?_
    ·rintro ρ ⟨h52, -⟩ w'
     have e52 : ρ 52 = .pointer (some ⟨g, i * 3, none⟩) := h52
     simp [execOp, evR, e52, go_sem]
    refine detT_read rfl (.slice A1 m.b.length c1) (fun _ _ => rfl) ?_ ?_
    ·rintro ρ ⟨h53, -⟩ c hc1 hc2
     have e53 : ρ 53 = .pointer (some ⟨g, i * 3 + 1, none⟩) := h53
     have hc : c = 0 ∨ c = 1 ∨ c = 2 := by have h1 : 0 ≤ c := hc1; have h2 : c ≤ 2 := hc2; omega
     rcases hc with rfl | rfl | rfl
     ·rw [q0]
      first
       | simp [execOp, evR, e53, x1, go_sem]; done
       | simp [execOp, evR, e53, y1, go_sem]; done
       | simp [execOp, evR, e53, d1, go_sem]; done
     ·rw [q1]
      first
       | simp [execOp, evR, e53, x1, go_sem]; done
       | simp [execOp, evR, e53, y1, go_sem]; done
       | simp [execOp, evR, e53, d1, go_sem]; done
     ·rw [q2]
      first
       | simp [execOp, evR, e53, x1, go_sem]; done
       | simp [execOp, evR, e53, y1, go_sem]; done
       | simp [execOp, evR, e53, d1, go_sem]; done
    refine detT_pure rfl (.int .i64 (N : Int)) (fun _ _ => rfl) ?_ ?_
    ·rintro ρ ⟨h2, -⟩ w'
     have e2 : ρ 2 = .int .i64 (N : Int) := h2
     simp [execOp, evR, e2, go_sem]
    refine detT_pure rfl (.slice A1 N c1) (fun _ _ => rfl) ?_ ?_
    ·rintro ρ ⟨h54, h55, -⟩ w'
     have e54 : ρ 54 = .slice A1 m.b.length c1 := h54
     have e55 : ρ 55 = .int .i64 (N : Int) := h55
     have q1 : (0 : Int) ≤ (N : Int) := by omega
     have q2 : (N : Int) ≤ (c1 : Int) := by omega
     simp [execOp, evR, e54, e55, q1, q2, go_sem]
    refine detT_turn rfl (.slice A3 L3 c3) (fun _ _ => rfl) ?_ ?_
    ·rintro ρ ⟨h46, h56, -⟩
     have e46 : ρ 46 = .slice (some ⟨w0.heap.size, 0, none⟩) 0 0 := h46
     have e56 : ρ 56 = .slice A1 N c1 := h56
     show (execOp (evR ρ) _).run Tryz.prog (ws 1) = .ok (.value _) (ws 2)
     rw [q1, q2]
     simp only [execOp, resolve, invoke, builtin, evR, List.map_toArray, List.map_cons, List.map_nil, e46, e56, Sem.run_bind, Sem.run_pure, Result.andThen_ok, hrun]
    refine detT_pure rfl (.pointer (some ⟨g, i * 3, none⟩)) (fun _ _ => rfl) ?_ ?_
    ·rintro ρ ⟨h44, h45, -⟩ w'
     have e44 : ρ 44 = .slice (some ⟨g, 0, none⟩) n cF := h44
     have e45 : ρ 45 = .int .i64 (i : Int) := h45
     exact index_at3 rfl e44 e45 (by omega)
    refine detT_pure rfl (.pointer (some ⟨g, i * 3 + 1, none⟩)) (fun _ _ => rfl) ?_ ?_
    ·rintro ρ ⟨h58, -⟩ w'
     have e58 : ρ 58 = .pointer (some ⟨g, i * 3, none⟩) := h58
     simp [execOp, evR, e58, go_sem]
    refine detT_store rfl (fun _ _ => rfl) ?_ ?_
    ·rintro ρ ⟨h59, h57, -⟩
     have e59 : ρ 59 = .pointer (some ⟨g, i * 3 + 1, none⟩) := h59
     have e57 : ρ 57 = .slice A3 L3 c3 := h57
     show (execOp (evR ρ) _).run Tryz.prog (ws 2) = .ok .skip (ws 3)
     rw [q2, q3]
     simp [execOp, evR, e59, e57, d1, z1, go_sem]
    simp only [DetT, applyV, Act.put, List.setIfInBounds_toArray, List.set_cons_zero, List.set_cons_succ]
    rw [q3]
    have hzz : z ≤ w0.heap.size := Nat.le_trans hz (Nat.le_trans HS.out.kb.size hext.size)
    have hbn : BsT z W2 (.slice A3 L3 c3) (m.b.take N) := ⟨hown'.bs, fun j hj => ⟨Nat.le_trans hzz ((BsT.of_owb hown').typed j hj).1, ((BsT.of_owb hown').typed j hj).2⟩⟩
    have hnew : ∀ j, (Value.slice A3 L3 c3).ownBlock = some j → w0.heap.size ≤ j := fun j hj => ((BsT.of_owb hown').typed j hj).1
    have a1 := hM2.fput (i := i) (m := m) (m' := { m with v := .slice A3 L3 c3, b := m.b.take N }) (r' := { r.tick with fs := (s.ms.set i { m with v := .slice A3 L3 c3, b := m.b.take N }).map RFil.fil }) HV.out HMM.out 1 (.slice A3 L3 c3) (rcells_set1 _ _ HMM.out) hbn rfl rfl rfl
    have HM3 := Lib.hid a1
    have hil2 : i < s.ms.length := (List.getElem?_eq_some_iff.1 HMM.out).1
    have HG2 := Lib.hid (show (s.ms.set i ({ m with v := .slice A3 L3 c3, b := m.b.take N } : RFil))[i]? = some { m with v := .slice A3 L3 c3, b := m.b.take N } by rw [List.getElem?_set_self hil2])
    have HX2 := Lib.hid (hext.trans hx02)
    have HNEW := Lib.hid hnew
    have HE0 := Lib.hid (Nat.le_trans HS.out.kb.size hext.size)
    have kk3 : (W2.setCell ⟨g, i * 3 + 1, none⟩ (.slice A3 L3 c3)).cell? ⟨br, 1, none⟩ = some (.slice (some ⟨g, 0, none⟩) n cF) := by
     have := a1.str.blk.cell (i := 1) rfl
     rw [show (({ s with n := n', ms := s.ms.set i { m with v := .slice A3 L3 c3, b := m.b.take N } } : RSt)).v = s.v from rfl, HV.out] at this
     exact this
    clear a1 hbn hnew hown' hown hrun hgrow brw0 brw1 brw2 hM2 hM0 d0 d1 d2 x1 y1 z1 q0 q1 q2 q3 hx01 hx02 hzz kk1 ws hsz
    go_wp2_with fail
    generalize hW3 : W2.setCell ⟨g, i * 3 + 1, none⟩ (.slice A3 L3 c3) = W3 at *
    have HW3 := Lib.hid hW3
    have HX3 := Lib.hid hext
    clear hW3 hext
    refine wp_region_turns 1 [(0, 0, false), (0, 0, false), (0, 0, false), (0, 0, false), (0, 0, false), (0, 0, false), (0, 0, false), (0, 0, false), (0, 0, false), (0, 0, false), (0, 0, false), (0, 0, false), (0, 0, false), (0, 0, false), (0, 0, false), (0, 1, false), (0, 0, false), (0, 0, true)] (fun w0 c => match c with | 0 => w0 | _ => w0.setCell ⟨g, i * 3 + 2, none⟩ (.int .i64 ((min m.sure N : Nat) : Int))) (by kernel_rfl) (by kernel_rfl) (by kernel_rfl) (fun _ => rfl) ?_
    intro w0 ws hext hsz hws
    have q0 : ws 0 = w0 := hws 0
    have q1 : ws 1 = w0.setCell ⟨g, i * 3 + 2, none⟩ (.int .i64 ((min m.sure N : Nat) : Int)) := hws 1
    clear hws
    have hM0 := HM3.out.ext hext
    have brw0 := hM0.str.blk
    simp only [rstr, HV.out] at brw0
    obtain ⟨d0, d1, d2⟩ := hM0.cells (s := { s with n := n', ms := s.ms.set i { m with v := .slice A3 L3 c3, b := m.b.take N } }) HV.out HG2.out
    have z2 := hM0.frozen (s := { s with n := n', ms := s.ms.set i { m with v := .slice A3 L3 c3, b := m.b.take N } }) HV.out (i * 3 + 2)
    refine detT_pure rfl (.pointer (some ⟨br, 0, none⟩)) (fun _ _ => rfl) ?_ ?_
    ·rintro ρ ⟨h0, -⟩ w'
     have e0 : ρ 0 = .pointer (some ⟨br, 0, none⟩) := h0
     simp [execOp, evR, e0, go_sem]
    refine detT_pure rfl (.pointer (some ⟨br, 0, none⟩)) (fun _ _ => rfl) ?_ ?_
    ·rintro ρ ⟨h60, -⟩ w'
     have e60 : ρ 60 = .pointer (some ⟨br, 0, none⟩) := h60
     simp [execOp, evR, e60, go_sem]
    refine detT_pure rfl (.pointer (some ⟨br, 1, none⟩)) (fun _ _ => rfl) ?_ ?_
    ·rintro ρ ⟨h61, -⟩ w'
     have e61 : ρ 61 = .pointer (some ⟨br, 0, none⟩) := h61
     simp [execOp, evR, e61, go_sem]
    refine detT_read rfl (.slice (some ⟨g, 0, none⟩) n cF) (fun _ _ => rfl) ?_ ?_
    ·rintro ρ ⟨h62, -⟩ c hc1 hc2
     have e62 : ρ 62 = .pointer (some ⟨br, 1, none⟩) := h62
     have hc : c = 0 := by have h1 : 0 ≤ c := hc1; have h2 : c ≤ 0 := hc2; omega
     rcases hc with rfl
     ·rw [q0]
      have c := brw0.cell (i := 1) rfl
      simp [execOp, evR, e62, c, go_sem]
    refine detT_pure rfl (.int .i64 (i : Int)) (fun _ _ => rfl) ?_ ?_
    ·rintro ρ ⟨h7, -⟩ w'
     have e7 : ρ 7 = .int .i64 (i : Int) := h7
     simp [execOp, evR, e7, go_sem]
    refine detT_pure rfl (.pointer (some ⟨br, 0, none⟩)) (fun _ _ => rfl) ?_ ?_
    ·rintro ρ ⟨h0, -⟩ w'
     have e0 : ρ 0 = .pointer (some ⟨br, 0, none⟩) := h0
     simp [execOp, evR, e0, go_sem]
    refine detT_pure rfl (.pointer (some ⟨br, 0, none⟩)) (fun _ _ => rfl) ?_ ?_
    ·rintro ρ ⟨h65, -⟩ w'
     have e65 : ρ 65 = .pointer (some ⟨br, 0, none⟩) := h65
     simp [execOp, evR, e65, go_sem]
    refine detT_pure rfl (.pointer (some ⟨br, 1, none⟩)) (fun _ _ => rfl) ?_ ?_
    ·rintro ρ ⟨h66, -⟩ w'
     have e66 : ρ 66 = .pointer (some ⟨br, 0, none⟩) := h66
     simp [execOp, evR, e66, go_sem]
    refine detT_read rfl (.slice (some ⟨g, 0, none⟩) n cF) (fun _ _ => rfl) ?_ ?_
    ·rintro ρ ⟨h67, -⟩ c hc1 hc2
     have e67 : ρ 67 = .pointer (some ⟨br, 1, none⟩) := h67
     have hc : c = 0 := by have h1 : 0 ≤ c := hc1; have h2 : c ≤ 0 := hc2; omega
     rcases hc with rfl
     ·rw [q0]
      have c := brw0.cell (i := 1) rfl
      simp [execOp, evR, e67, c, go_sem]
    refine detT_pure rfl (.int .i64 (i : Int)) (fun _ _ => rfl) ?_ ?_
    ·rintro ρ ⟨h7, -⟩ w'
     have e7 : ρ 7 = .int .i64 (i : Int) := h7
     simp [execOp, evR, e7, go_sem]
    refine detT_pure rfl (.pointer (some ⟨g, i * 3, none⟩)) (fun _ _ => rfl) ?_ ?_
    ·rintro ρ ⟨h68, h69, -⟩ w'
     have e68 : ρ 68 = .slice (some ⟨g, 0, none⟩) n cF := h68
     have e69 : ρ 69 = .int .i64 (i : Int) := h69
     exact index_at3 rfl e68 e69 (by omega)
    refine detT_pure rfl (.pointer (some ⟨g, i * 3 + 2, none⟩)) (fun _ _ => rfl) ?_ ?_
    ·rintro ρ ⟨h70, -⟩ w'
     have e70 : ρ 70 = .pointer (some ⟨g, i * 3, none⟩) := h70
     simp [execOp, evR, e70, go_sem]
    refine detT_read rfl (.int .i64 (m.sure : Int)) (fun _ _ => rfl) ?_ ?_
    ·rintro ρ ⟨h71, -⟩ c hc1 hc2
     have e71 : ρ 71 = .pointer (some ⟨g, i * 3 + 2, none⟩) := h71
     have hc : c = 0 := by have h1 : 0 ≤ c := hc1; have h2 : c ≤ 0 := hc2; omega
     rcases hc with rfl
     ·rw [q0]
      simp [execOp, evR, e71, d2, go_sem]
    refine detT_pure rfl (.int .i64 (N : Int)) (fun _ _ => rfl) ?_ ?_
    ·rintro ρ ⟨h2, -⟩ w'
     have e2 : ρ 2 = .int .i64 (N : Int) := h2
     simp [execOp, evR, e2, go_sem]
    refine detT_pure rfl (.int .i64 ((min m.sure N : Nat) : Int)) (fun _ _ => rfl) ?_ ?_
    ·rintro ρ ⟨h72, h73, -⟩ w'
     have e72 : ρ 72 = .int .i64 (m.sure : Int) := h72
     have e73 : ρ 73 = .int .i64 (N : Int) := h73
     simp [execOp, resolve, invoke, builtin, evR, e72, e73, run_min_int2, go_sem]
     split <;> omega
    refine detT_pure rfl (.pointer (some ⟨g, i * 3, none⟩)) (fun _ _ => rfl) ?_ ?_
    ·rintro ρ ⟨h63, h64, -⟩ w'
     have e63 : ρ 63 = .slice (some ⟨g, 0, none⟩) n cF := h63
     have e64 : ρ 64 = .int .i64 (i : Int) := h64
     exact index_at3 rfl e63 e64 (by omega)
    refine detT_pure rfl (.pointer (some ⟨g, i * 3 + 2, none⟩)) (fun _ _ => rfl) ?_ ?_
    ·rintro ρ ⟨h75, -⟩ w'
     have e75 : ρ 75 = .pointer (some ⟨g, i * 3, none⟩) := h75
     simp [execOp, evR, e75, go_sem]
    refine detT_store rfl (fun _ _ => rfl) ?_ ?_
    ·rintro ρ ⟨h76, h74, -⟩
     have e76 : ρ 76 = .pointer (some ⟨g, i * 3 + 2, none⟩) := h76
     have e74 : ρ 74 = .int .i64 ((min m.sure N : Nat) : Int) := h74
     show (execOp (evR ρ) _).run Tryz.prog (ws 0) = .ok .skip (ws 1)
     rw [q0, q1]
     simp [execOp, evR, e76, e74, d2, z2, go_sem]
    simp only [DetT, applyV, Act.put, List.setIfInBounds_toArray, List.set_cons_zero, List.set_cons_succ]
    rw [q1]
    have hfin : ((s.ms.set i ({ m with v := .slice A3 L3 c3, b := m.b.take N } : RFil)).set i { m with v := .slice A3 L3 c3, b := m.b.take N, sure := min m.sure N }).map RFil.fil = ((fun d : Dk => d.upd name fun f => ⟨f.name, f.b.take ((N : Int)).toNat, min f.sure ((N : Int)).toNat⟩) r.tick).fs := by
     rw [List.set_set]
     exact set_fil (fs := r.tick.fs) (g := fun f => ⟨f.name, f.b.take ((N : Int)).toNat, min f.sure ((N : Int)).toNat⟩) HS.out.rk.fs HMM.out (by rw [tick_fs]; exact HFIE.out) (by rw [tick_fs]; exact HOK.out.apart) rfl
    have a2 := hM0.fput (i := i) (m := { m with v := .slice A3 L3 c3, b := m.b.take N }) (m' := { m with v := .slice A3 L3 c3, b := m.b.take N, sure := min m.sure N }) (r' := (fun d : Dk => d.upd name fun f => ⟨f.name, f.b.take ((N : Int)).toNat, min f.sure ((N : Int)).toNat⟩) r.tick) HV.out HG2.out 2 (.int .i64 ((min m.sure N : Nat) : Int)) (rcells_set2 (i := i) (m := { m with v := .slice A3 L3 c3, b := m.b.take N }) (min m.sure N) HG2.out) (hM0.bytes { m with v := .slice A3 L3 c3, b := m.b.take N } (List.mem_of_getElem? HG2.out)) rfl rfl hfin
    have hgv : s.v.ownBlock = some g := by rw [HV.out]; rfl
    have hkb := ((((HS.out.kb.trans (Kb.of_ext (fp := rall br s) HX2.out) (fun _ h => .inl h)).trans (Kb.set (rall br s) W2 g (i * 3 + 1) (.slice A3 L3 c3) (.inr (.inl hgv))) (fun _ h => .inl h)).trans (by rw [HW3.out]; exact Kb.of_ext (fp := rall br s) hext) (fun _ h => .inl h)).trans (Kb.set (rall br s) w0 g (i * 3 + 2) (.int .i64 ((min m.sure N : Nat) : Int)) (.inr (.inl hgv))) (fun _ h => .inl h))
    have HX := Lib.hid (⟨a2, hkb, fun k hk => by
     rw [List.set_set] at hk
     rcases hk with rfl | hk | ⟨x, hx, hk⟩
     ·exact .inl (.inl rfl)
     ·exact .inl (.inr (.inl hk))
     ·rcases List.mem_or_eq_of_mem_set hx with hx | rfl
      ·exact .inl (.inr (.inr ⟨x, hx, hk⟩))
      ·exact .inr (Nat.le_trans HE0.out (HNEW.out k hk))⟩ : RkS z _ _ br s r _ ((fun d : Dk => d.upd name fun f => ⟨f.name, f.b.take ((N : Int)).toNat, min f.sure ((N : Int)).toNat⟩) r.tick))
    clear a2 hkb hfin brw0 d0 d1 d2 z2 hM0 kk3 q0 q1
    go_wp2_with fail
    go_ret
    exact RkPost.acted HD.out HX.out
end Go.Proofs.YtagghghoimpofaaGreatDoor

/-
 Layer 15: Append of the document's disk.
-/
namespace Go.Proofs.YtagghghoimpofaaGreatDoor
open Go Go.RowKit Mono
set_option linter.unusedVariables false
set_option linter.unusedSimpArgs false
set_option maxRecDepth 100000
set_option maxHeartbeats 2000000
theorem Bs.kbp {fp : Nat → Prop} {W W' : World} {v : Value} {b : List UInt8} (h : Bs W v b) (k : Kb fp W W') (hn : ∀ j, v.ownBlock = some j → 0 < b.length → ¬ fp j) : Bs W' v b := by
 obtain ⟨A, c, rfl, h1, h2, h3, h4⟩ := h.open_
 refine Bs.mk rfl h1 h2 h3 fun h0 => ?_
 obtain ⟨g, off, rfl, hg, hc⟩ := h4 h0
 refine ⟨g, off, rfl, Nat.lt_of_lt_of_le hg k.size, fun i x hx => ?_⟩
 rw [← hc i x hx]
 exact World.cell?_of_block (k.block g hg (hn g rfl h0))
theorem upd_append_ok {d : Dk} (h : d.Ok) {name b : List UInt8} {f : Fil} (hm : f ∈ d.fs) (hn : f.name = name) (h1 : ¬ 1048576 < f.b.length + b.length) (h2 : ¬ d.room < d.used + b.length) : (d.upd name fun f => { f with b := f.b ++ b }).Ok := by
 refine h.upd (fun _ => rfl) (fun x hx hxn => ?_) (fun x hx hxn => ?_) ?_
 ·have := h.sure x hx
  show x.sure ≤ (x.b ++ b).length
  simp
  omega
 ·have e := mem_uniq h hx hm (hxn.trans hn.symm)
  subst e
  show (x.b ++ b).length ≤ _
  simp
  omega
 ·have key : ∀ fs : List Fil, fs.Pairwise (fun a b => a.name ≠ b.name) → usedF (updF name (fun f => { f with b := f.b ++ b }) fs) ≤ usedF fs + b.length := by
   intro fs
   induction fs with
   | nil => intro _; simp [updF, usedF]
   | cons x r ih =>
    intro hp
    obtain ⟨h3, h4⟩ := List.pairwise_cons.1 hp
    unfold usedF updF at *
    simp only [List.map_cons, List.sum_cons]
    by_cases hx : (x.name == name) = true
    ·rw [if_pos hx]
     have hx' : x.name = name := by simpa using hx
     have off : r.map (fun f => if (f.name == name) = true then ({ f with b := f.b ++ b } : Fil) else f) = r := by
      conv => rhs; rw [← List.map_id r]
      refine List.map_congr_left fun y hy => ?_
      rw [if_neg]
      ·rfl
      ·intro hy2
       exact h3 y hy (by rw [hx']; simpa using Eq.symm (by simpa using hy2 : y.name = name))
     rw [off]
     simp
     omega
    ·rw [if_neg hx]
     have := ih h4
     dsimp only at this
     omega
  have := key d.fs (h.sorted.imp fun {a b} hab e => by rw [e, bl_irrefl] at hab; cases hab)
  show usedF _ ≤ d.room
  have hd : d.used = usedF d.fs := rfl
  unfold Dk.upd
  dsimp only
  omega

theorem rappend_any {z br : Nat} {W : World} {s : RSt} {r : Dk} (h : RkM z W br s r) (hok : r.Ok) (hsm : r.Small) (hz : z ≤ W.heap.size) (name : List UInt8) {v : Value} {b : List UInt8} (hb : Bs W v b) (hna : ∀ j, v.ownBlock = some j → 0 < b.length → ¬ rall br s j) (hbs : b.length ≤ 4611686018427387904) :
  Calls Tryz.prog 66 #[.pointer (some ⟨br, 0, none⟩), strV name, v] W (RkPost z W br s r (dAppend r name b)) := by
 obtain ⟨A2, c2, rfl, ij1, ij2, ij3, ij4⟩ := hb.open_
 have HBB := Lib.hid hb
 have HNA := Lib.hid hna
 have hbl : b.length ≤ 9223372036854775807 := by unfold maxLen at ij2; omega
 clear hb hna ij3 ij4
 have HFI := Lib.hid (rfind_any h name)
 obtain ⟨A, cF, hv, f1, f2, f3⟩ := h.form
 have k1 := h.str.blk.cell (i := 1) rfl
 rw [hv] at k1
 have k2 := h.str.blk.cell (i := 2) rfl
 have k7 := h.str.blk.cell (i := 7) rfl
 have HH := Lib.hid h
 have HL := Lib.hid h.len
 obtain ⟨n, hn⟩ : ∃ n, n = s.ms.length := ⟨_, rfl⟩
 rw [← hn] at k1 f1 f3 hv
 have HN := Lib.hid hn
 have HV := Lib.hid hv
 have HOK := Lib.hid hok
 have HSM := Lib.hid hsm
 have HC := Lib.hid (rcounted_any h hsm)
 unfold maxLen at f2 ij2
 unfold strV at HFI ⊢
 clear h hn hv hok hsm
 cases hon : r.on
 ·have hres : dAppend r name b = (r, 150) := by unfold dAppend; rw [if_pos hon]
  rw [hres]
  rw [hon] at k2
  simp only [Bool.not_false] at k2
  clear hon
  go_enter Tryz.func66, Tryz.ntmps66
  go_wp2_with fail
  go_ret
  exact RkPost.same HH.out (Ext.refl _) 150
 ·rw [hon] at k2
  simp only [Bool.not_true] at k2
  have HON := Lib.hid hon
  clear hon
  cases hfi : findI name r.fs with
  | none =>
   have hfn := (findI_spec name r.fs).2 hfi
   have hres : dAppend r name b = (r, 152) := by unfold dAppend; rw [if_neg (by simp [HON.out]), hfn]
   rw [hres]
   rw [findZ_none hfi] at HFI
   clear hfi hfn
   go_enter Tryz.func66, Tryz.ntmps66
   go_wp2_with fail
   refine HFI.out.mono ?_
   rintro e w1 ⟨rfl, rfl⟩
   go_wp2_with fail
   go_ret
   exact RkPost.same HH.out (Ext.refl _) 152
  | some i =>
   obtain ⟨f, hf1, hf2⟩ := (findI_spec name r.fs).1 i hfi
   rw [findZ_some hfi] at HFI
   have hil : i < n := by rw [HN.out, HL.out]; exact (List.getElem?_eq_some_iff.1 hf1).1
   obtain ⟨g, rfl⟩ := f3 (by omega)
   obtain ⟨m, hm⟩ : ∃ m, s.ms[i]? = some m := ⟨_, List.getElem?_eq_getElem (by rw [← HN.out]; exact hil)⟩
   have hfe : f = m.fil := by have := HH.out.fil hm; rw [hf1] at this; injection this
   subst hfe
   obtain ⟨A1, c1, hmv, j1, j2, -, -⟩ := (HH.out.bytes m (List.mem_of_getElem? hm)).bs.open_
   have hlen : m.b.length ≤ 1048576 := HOK.out.len m.fil (List.mem_of_getElem? hf1)
   have hsure : m.sure ≤ m.b.length := HOK.out.sure m.fil (List.mem_of_getElem? hf1)
   have HFIE := Lib.hid hfi
   have HMM := Lib.hid hm
   have HMV := Lib.hid hmv
   have HF1 := Lib.hid hf1
   have HF2 := Lib.hid hf2
   have HFB := Lib.hid (show m.fil.b = m.b from rfl)
   clear hfi hm hmv hf1 hf2 f3
   obtain ⟨-, cv, -⟩ := HH.out.cells HV.out HMM.out
   rw [HMV.out] at cv
   have hfb : m.fil.b.length = m.b.length := rfl
   by_cases hl1 : 1048576 < m.b.length + b.length
   ·have hres : dAppend r name b = (r, 3) := by
     unfold dAppend
     rw [if_neg (by simp [HON.out]), HF2.out]
     dsimp only
     rw [if_pos (by rw [hfb]; exact hl1)]
    rw [hres]
    by_cases hbig : b.length ≤ 4611686018427387904
    ·have hw29 : IntKind.i64.wrap ((m.b.length : Int) + (b.length : Int)) = (m.b.length : Int) + (b.length : Int) := by rw [IntWalk.i64_in _ (by omega)]
     have hgt : (1048576 : Int) < (m.b.length : Int) + (b.length : Int) := by omega
     clear hfb
     go_enter Tryz.func66, Tryz.ntmps66
     go_wp2_with fail
     refine HFI.out.mono ?_
     rintro e w1 ⟨rfl, rfl⟩
     go_wp2_with fail
     go_ret
     exact RkPost.same HH.out (Ext.refl _) 3
    ·exact absurd hbs (by omega)
   have hw29 : IntKind.i64.wrap ((m.b.length : Int) + (b.length : Int)) = (m.b.length : Int) + (b.length : Int) := by rw [IntWalk.i64_in _ (by omega)]
   have hgt : ¬ ((1048576 : Int) < (m.b.length : Int) + (b.length : Int)) := by omega
   have hub : r.used ≤ 1073741824 := Nat.le_trans HOK.out.used HOK.out.room
   have hrb : r.room ≤ 1073741824 := HOK.out.room
   have HUS0 := Lib.hid (fun (w' : World) (he : Ext W w') => rused_any (HH.out.ext he) HOK.out)
   obtain ⟨U, hU⟩ : ∃ U, U = r.used := ⟨_, rfl⟩
   have HU := Lib.hid hU
   rw [← hU] at hub
   have HUS := Lib.hid (fun (w' : World) (he : Ext W w') => show Calls _ _ _ w' (fun e w'' => e = .returned (.int .i64 (U : Int)) ∧ w'' = w') by rw [hU]; exact HUS0.out w' he)
   have HBR := Lib.hid HH.out.str.blk
   clear HUS0 hU
   by_cases hl2 : r.room < r.used + b.length
   ·have hres : dAppend r name b = (r, 151) := by
     unfold dAppend
     rw [if_neg (by simp [HON.out]), HF2.out]
     dsimp only
     rw [if_neg (by rw [hfb]; exact hl1), if_pos hl2]
    rw [hres]
    rw [← HU.out] at hl2
    clear hfb
    go_enter Tryz.func66, Tryz.ntmps66
    go_wp2_with fail
    refine HFI.out.mono ?_
    rintro e w1 ⟨rfl, rfl⟩
    go_wp2_with fail
    refine wp_region_mono (by kernel_rfl) (by kernel_rfl) ?_
    refine tele_move rfl (.inl rfl) rfl (isV (.pointer (some ⟨br, 0, none⟩))) (fun ρ w' h => h) ?_
    refine tele_call rfl rfl Tryz.func59 (by kernel_rfl) (isV (.int .i64 (U : Int))) (fun _ _ _ => rfl) ?_ ?_
    ·rintro ρ w' he ⟨h31, -⟩
     have e31 : ρ 31 = (.pointer (some ⟨br, 0, none⟩)) := h31
     simp only [evR, List.map_toArray, List.map_cons, List.map_nil, e31]
     refine (HUS.out w' he).mono ?_
     rintro e w'' ⟨rfl, rfl⟩
     exact ⟨_, rfl, Ext.refl _, rfl⟩
    refine tele_move rfl (.inl rfl) rfl (isV (.slice A2 b.length c2)) (fun ρ w' h => h) ?_
    refine tele_val rfl (.int .i64 (b.length : Int)) (fun _ _ _ => rfl) ?_ ?_
    ·rintro ρ w' he ⟨h33, -⟩
     have e33 : ρ 33 = (.slice A2 b.length c2) := h33
     simp [execOp, evR, e33, go_sem]
    refine tele_val rfl (.int .i64 ((U : Int) + (b.length : Int))) (fun _ _ _ => rfl) ?_ ?_
    ·rintro ρ w' he ⟨h32, h34, -⟩
     have e32 : ρ 32 = (.int .i64 (U : Int)) := h32
     have e34 : ρ 34 = (.int .i64 (b.length : Int)) := h34
     have hw : IntKind.i64.wrap ((U : Int) + (b.length : Int)) = (U : Int) + (b.length : Int) := by rw [IntWalk.i64_in _ (by omega)]
     simp [execOp, evR, e32, e34, hw, go_sem]
    refine tele_move rfl (.inl rfl) rfl (isV (.pointer (some ⟨br, 0, none⟩))) (fun ρ w' h => h) ?_
    refine tele_val rfl (.pointer (some ⟨br, 0, none⟩)) (fun _ _ _ => rfl) ?_ ?_
    ·rintro ρ w' he ⟨h36, -⟩
     have e36 : ρ 36 = (.pointer (some ⟨br, 0, none⟩)) := h36
     simp [execOp, evR, e36, go_sem]
    refine tele_val rfl (.pointer (some ⟨br, 0, none⟩)) (fun _ _ _ => rfl) ?_ ?_
    ·rintro ρ w' he ⟨h37, -⟩
     have e37 : ρ 37 = (.pointer (some ⟨br, 0, none⟩)) := h37
     simp [execOp, evR, e37, go_sem]
    refine tele_val rfl (.int .i64 (r.room : Int)) (fun _ _ _ => rfl) ?_ ?_
    ·rintro ρ w' he ⟨h38, -⟩
     have e38 : ρ 38 = (.pointer (some ⟨br, 0, none⟩)) := h38
     have c := (HBR.out.ext he).cell (i := 0) rfl
     simp [execOp, evR, e38, c, go_sem]
    refine tele_val rfl (.bool true) (fun _ _ _ => rfl) ?_ ?_
    ·rintro ρ w' he ⟨h35, h39, -⟩
     have e35 : ρ 35 = (.int .i64 ((U : Int) + (b.length : Int))) := h35
     have e39 : ρ 39 = (.int .i64 (r.room : Int)) := h39
     simp [execOp, evR, e35, e39, go_sem]
     omega
    refine tele_nil ?_
    rintro ρ w' hext ⟨f40, f39, f38, f37, f36, f35, f34, f33, f32, f31, -⟩
    replace f31 : ρ 31 = (.pointer (some ⟨br, 0, none⟩)) := f31
    replace f32 : ρ 32 = (.int .i64 (U : Int)) := f32
    replace f33 : ρ 33 = (.slice A2 b.length c2) := f33
    replace f34 : ρ 34 = (.int .i64 (b.length : Int)) := f34
    replace f35 : ρ 35 = (.int .i64 ((U : Int) + (b.length : Int))) := f35
    replace f36 : ρ 36 = (.pointer (some ⟨br, 0, none⟩)) := f36
    replace f37 : ρ 37 = (.pointer (some ⟨br, 0, none⟩)) := f37
    replace f38 : ρ 38 = (.pointer (some ⟨br, 0, none⟩)) := f38
    replace f39 : ρ 39 = (.int .i64 (r.room : Int)) := f39
    replace f40 : ρ 40 = (.bool true) := f40
    simp only [puts, Act.put, List.setIfInBounds_toArray, List.set_cons_zero, List.set_cons_succ]
    rw [f40]
    go_wp2_with fail
    go_ret
    exact RkPost.same HH.out hext 151
   ·have hres : dAppend r name b = (r.upd name (fun f : Fil => { f with b := f.b ++ b })).count id := by
     unfold dAppend
     rw [if_neg (by simp [HON.out]), HF2.out]
     dsimp only
     rw [if_neg (by rw [hfb]; exact hl1), if_neg hl2]
    rw [hres]
    have HOK1 := Lib.hid (upd_append_ok HOK.out (List.mem_of_getElem? HF1.out) (findF_mem HF2.out).2 (by rw [hfb]; exact hl1) hl2)
    rw [← HU.out] at hl2
    clear hfb
    go_enter Tryz.func66, Tryz.ntmps66
    go_wp2_with fail
    refine HFI.out.mono ?_
    rintro e w1 ⟨rfl, rfl⟩
    go_wp2_with fail
    refine wp_region_mono (by kernel_rfl) (by kernel_rfl) ?_
    refine tele_move rfl (.inl rfl) rfl (isV (.pointer (some ⟨br, 0, none⟩))) (fun ρ w' h => h) ?_
    refine tele_call rfl rfl Tryz.func59 (by kernel_rfl) (isV (.int .i64 (U : Int))) (fun _ _ _ => rfl) ?_ ?_
    ·rintro ρ w' he ⟨h31, -⟩
     have e31 : ρ 31 = (.pointer (some ⟨br, 0, none⟩)) := h31
     simp only [evR, List.map_toArray, List.map_cons, List.map_nil, e31]
     refine (HUS.out w' he).mono ?_
     rintro e w'' ⟨rfl, rfl⟩
     exact ⟨_, rfl, Ext.refl _, rfl⟩
    refine tele_move rfl (.inl rfl) rfl (isV (.slice A2 b.length c2)) (fun ρ w' h => h) ?_
    refine tele_val rfl (.int .i64 (b.length : Int)) (fun _ _ _ => rfl) ?_ ?_
    ·rintro ρ w' he ⟨h33, -⟩
     have e33 : ρ 33 = (.slice A2 b.length c2) := h33
     simp [execOp, evR, e33, go_sem]
    refine tele_val rfl (.int .i64 ((U : Int) + (b.length : Int))) (fun _ _ _ => rfl) ?_ ?_
    ·rintro ρ w' he ⟨h32, h34, -⟩
     have e32 : ρ 32 = (.int .i64 (U : Int)) := h32
     have e34 : ρ 34 = (.int .i64 (b.length : Int)) := h34
     have hw : IntKind.i64.wrap ((U : Int) + (b.length : Int)) = (U : Int) + (b.length : Int) := by rw [IntWalk.i64_in _ (by omega)]
     simp [execOp, evR, e32, e34, hw, go_sem]
    refine tele_move rfl (.inl rfl) rfl (isV (.pointer (some ⟨br, 0, none⟩))) (fun ρ w' h => h) ?_
    refine tele_val rfl (.pointer (some ⟨br, 0, none⟩)) (fun _ _ _ => rfl) ?_ ?_
    ·rintro ρ w' he ⟨h36, -⟩
     have e36 : ρ 36 = (.pointer (some ⟨br, 0, none⟩)) := h36
     simp [execOp, evR, e36, go_sem]
    refine tele_val rfl (.pointer (some ⟨br, 0, none⟩)) (fun _ _ _ => rfl) ?_ ?_
    ·rintro ρ w' he ⟨h37, -⟩
     have e37 : ρ 37 = (.pointer (some ⟨br, 0, none⟩)) := h37
     simp [execOp, evR, e37, go_sem]
    refine tele_val rfl (.int .i64 (r.room : Int)) (fun _ _ _ => rfl) ?_ ?_
    ·rintro ρ w' he ⟨h38, -⟩
     have e38 : ρ 38 = (.pointer (some ⟨br, 0, none⟩)) := h38
     have c := (HBR.out.ext he).cell (i := 0) rfl
     simp [execOp, evR, e38, c, go_sem]
    refine tele_val rfl (.bool false) (fun _ _ _ => rfl) ?_ ?_
    ·rintro ρ w' he ⟨h35, h39, -⟩
     have e35 : ρ 35 = (.int .i64 ((U : Int) + (b.length : Int))) := h35
     have e39 : ρ 39 = (.int .i64 (r.room : Int)) := h39
     simp [execOp, evR, e35, e39, go_sem]
     omega
    refine tele_nil ?_
    rintro ρ w' hext ⟨f40, f39, f38, f37, f36, f35, f34, f33, f32, f31, -⟩
    replace f40 : ρ 40 = (.bool false) := f40
    simp only [puts, Act.put, List.setIfInBounds_toArray, List.set_cons_zero, List.set_cons_succ]
    rw [f40]
    have HXA := Lib.hid hext
    have HHA := Lib.hid (HH.out.ext hext)
    have HCA := Lib.hid (rcounted_any HHA.out HSM.out)
    clear hext f31 f32 f33 f34 f35 f36 f37 f38 f39 f40
    go_wp2_with fail
    refine HCA.out.mono ?_
    intro e w1 hcc
    obtain ⟨okb, n', r1, rfl, hs0, hd1, hd2, hfs1⟩ : ∃ okb n' r1, e = .returned (.bool okb) ∧ RkS z _ w1 br s r { s with n := n' } r1 ∧ (∀ k, r.dead = some k → okb = false ∧ r1 = r ∧ s.k = k) ∧ (r.dead = none → okb = true ∧ r1 = r.tick) ∧ r1.fs = r.fs := by
     cases hd : r.dead with
     | some k =>
      obtain ⟨rfl, rfl, hk⟩ := hcc.1 k hd
      exact ⟨false, s.n, r, rfl, RkS.ext HH.out HXA.out, fun k' h => by injection h with h; exact ⟨rfl, rfl, hk.trans h⟩, fun h => (by cases h), rfl⟩
     | none =>
      obtain ⟨rfl, n', hs⟩ := hcc.2 hd
      exact ⟨true, n', r.tick, rfl, (RkS.ext HH.out HXA.out).trans hs, fun k h => (by cases h), fun _ => ⟨rfl, rfl⟩, tick_fs r⟩
    have HS := Lib.hid hs0
    have HSK := Lib.hid hs0.kb
    have HD1 := Lib.hid hd1
    have HD2 := Lib.hid hd2
    have HFS1 := Lib.hid hfs1
    have hszW := hs0.kb.size
    have HBS := Lib.hid (show Bs w1 (.slice A1 m.b.length c1) m.b by have := (hs0.rk.bytes m (List.mem_of_getElem? HMM.out)).bs; rw [HMV.out] at this; exact this)
    have kk1 : w1.cell? ⟨br, 1, none⟩ = some s.v := hs0.rk.str.blk.cell (i := 1) rfl
    rw [HV.out] at kk1
    clear hcc hs0 hd1 hd2 hfs1
    go_wp2_with fail
    refine wp_region_turns 4 [(0, 3, false), (0, 3, false), (0, 3, false), (0, 3, false), (0, 3, false), (0, 0, true), (0, 3, false), (0, 3, false), (0, 3, false), (0, 3, false), (0, 3, false), (0, 3, false), (0, 3, false), (0, 1, false), (1, 1, true), (0, 2, false), (2, 2, true), (3, 4, false), (3, 3, false), (3, 3, true)] (fun w0 c => match c with | 0 => w0 | 1 => w0.alloc (.cells #[] 5) | 2 => resW ((Builtin.append_ #[34, 34] 34 #[.slice (some ⟨w0.heap.size, 0, none⟩) 0 0, .slice A1 m.b.length c1]).run Tryz.prog (w0.alloc (.cells #[] 5))) (w0.alloc (.cells #[] 5)) | 3 => resW ((Builtin.append_ #[34, 34] 34 #[resV ((Builtin.append_ #[34, 34] 34 #[.slice (some ⟨w0.heap.size, 0, none⟩) 0 0, .slice A1 m.b.length c1]).run Tryz.prog (w0.alloc (.cells #[] 5))), .slice A2 b.length c2]).run Tryz.prog (resW ((Builtin.append_ #[34, 34] 34 #[.slice (some ⟨w0.heap.size, 0, none⟩) 0 0, .slice A1 m.b.length c1]).run Tryz.prog (w0.alloc (.cells #[] 5))) (w0.alloc (.cells #[] 5)))) (resW ((Builtin.append_ #[34, 34] 34 #[.slice (some ⟨w0.heap.size, 0, none⟩) 0 0, .slice A1 m.b.length c1]).run Tryz.prog (w0.alloc (.cells #[] 5))) (w0.alloc (.cells #[] 5))) | _ => (resW ((Builtin.append_ #[34, 34] 34 #[resV ((Builtin.append_ #[34, 34] 34 #[.slice (some ⟨w0.heap.size, 0, none⟩) 0 0, .slice A1 m.b.length c1]).run Tryz.prog (w0.alloc (.cells #[] 5))), .slice A2 b.length c2]).run Tryz.prog (resW ((Builtin.append_ #[34, 34] 34 #[.slice (some ⟨w0.heap.size, 0, none⟩) 0 0, .slice A1 m.b.length c1]).run Tryz.prog (w0.alloc (.cells #[] 5))) (w0.alloc (.cells #[] 5)))) (resW ((Builtin.append_ #[34, 34] 34 #[.slice (some ⟨w0.heap.size, 0, none⟩) 0 0, .slice A1 m.b.length c1]).run Tryz.prog (w0.alloc (.cells #[] 5))) (w0.alloc (.cells #[] 5)))).setCell ⟨g, i * 3 + 1, none⟩ (resV ((Builtin.append_ #[34, 34] 34 #[resV ((Builtin.append_ #[34, 34] 34 #[.slice (some ⟨w0.heap.size, 0, none⟩) 0 0, .slice A1 m.b.length c1]).run Tryz.prog (w0.alloc (.cells #[] 5))), .slice A2 b.length c2]).run Tryz.prog (resW ((Builtin.append_ #[34, 34] 34 #[.slice (some ⟨w0.heap.size, 0, none⟩) 0 0, .slice A1 m.b.length c1]).run Tryz.prog (w0.alloc (.cells #[] 5))) (w0.alloc (.cells #[] 5)))))) (by kernel_rfl) (by kernel_rfl) (by kernel_rfl) (fun _ => rfl) ?_
    intro w0 ws hext hsz hws
    have q0 : ws 0 = w0 := hws 0
    have q1 : ws 1 = w0.alloc (.cells #[] 5) := hws 1
    have q2 : ws 2 = resW ((Builtin.append_ #[34, 34] 34 #[.slice (some ⟨w0.heap.size, 0, none⟩) 0 0, .slice A1 m.b.length c1]).run Tryz.prog (w0.alloc (.cells #[] 5))) (w0.alloc (.cells #[] 5)) := hws 2
    have q3 : ws 3 = resW ((Builtin.append_ #[34, 34] 34 #[resV ((Builtin.append_ #[34, 34] 34 #[.slice (some ⟨w0.heap.size, 0, none⟩) 0 0, .slice A1 m.b.length c1]).run Tryz.prog (w0.alloc (.cells #[] 5))), .slice A2 b.length c2]).run Tryz.prog (resW ((Builtin.append_ #[34, 34] 34 #[.slice (some ⟨w0.heap.size, 0, none⟩) 0 0, .slice A1 m.b.length c1]).run Tryz.prog (w0.alloc (.cells #[] 5))) (w0.alloc (.cells #[] 5)))) (resW ((Builtin.append_ #[34, 34] 34 #[.slice (some ⟨w0.heap.size, 0, none⟩) 0 0, .slice A1 m.b.length c1]).run Tryz.prog (w0.alloc (.cells #[] 5))) (w0.alloc (.cells #[] 5))) := hws 3
    have q4 : ws 4 = (resW ((Builtin.append_ #[34, 34] 34 #[resV ((Builtin.append_ #[34, 34] 34 #[.slice (some ⟨w0.heap.size, 0, none⟩) 0 0, .slice A1 m.b.length c1]).run Tryz.prog (w0.alloc (.cells #[] 5))), .slice A2 b.length c2]).run Tryz.prog (resW ((Builtin.append_ #[34, 34] 34 #[.slice (some ⟨w0.heap.size, 0, none⟩) 0 0, .slice A1 m.b.length c1]).run Tryz.prog (w0.alloc (.cells #[] 5))) (w0.alloc (.cells #[] 5)))) (resW ((Builtin.append_ #[34, 34] 34 #[.slice (some ⟨w0.heap.size, 0, none⟩) 0 0, .slice A1 m.b.length c1]).run Tryz.prog (w0.alloc (.cells #[] 5))) (w0.alloc (.cells #[] 5)))).setCell ⟨g, i * 3 + 1, none⟩ (resV ((Builtin.append_ #[34, 34] 34 #[resV ((Builtin.append_ #[34, 34] 34 #[.slice (some ⟨w0.heap.size, 0, none⟩) 0 0, .slice A1 m.b.length c1]).run Tryz.prog (w0.alloc (.cells #[] 5))), .slice A2 b.length c2]).run Tryz.prog (resW ((Builtin.append_ #[34, 34] 34 #[.slice (some ⟨w0.heap.size, 0, none⟩) 0 0, .slice A1 m.b.length c1]).run Tryz.prog (w0.alloc (.cells #[] 5))) (w0.alloc (.cells #[] 5))))) := hws 4
    clear hws
    have hM0 := HS.out.rk.ext hext
    have hx01 := ext_alloc w0 (.cells #[] 5)
    obtain ⟨i0, hi0, hz0, hz1, hz2⟩ := info_parts infoU8
    obtain ⟨v1, W2, hrun1, hown1, hgrow1, -⟩ := run_append_sl (P := Tryz.prog) (w := w0.alloc (.cells #[] 5)) w0.heap.size 34 34 5 i0 (.int .u8 0) 1 Tryz.underlying34 hi0 hz0 hz1 hz2 rfl (OwB.empty_ w0 (Nat.le_refl _)) ((HBS.out.ext hext).ext hx01) bv_one (by unfold maxLen; simp; omega) (by simp; omega) (by simp)
    have hx02 : Ext w0 W2 := Below.growB hx01 (OwB.empty_ w0 (Nat.le_refl _)) hgrow1 (Nat.le_refl _) (by simp)
    have hown1' : OwB W2 w0.heap.size v1 m.b := by
     have h := hown1
     simp only [List.map_nil, List.nil_append] at h
     exact h
    obtain ⟨v2, W3, hrun2, hown2, hgrow2, -⟩ := run_append_sl (P := Tryz.prog) (w := W2) w0.heap.size 34 34 5 i0 (.int .u8 0) 1 Tryz.underlying34 hi0 hz0 hz1 hz2 rfl hown1' ((HBB.out.kbp HSK.out (fun j hj h0 hd => HNA.out j hj h0 hd)).ext (hext.trans hx02)) bv_one (by unfold maxLen; simp; omega) (by simp; omega) hx02.size
    have hx03 : Ext w0 W3 := Below.growB hx02 hown1' hgrow2 (Nat.le_refl _) hx02.size
    have hown2' : OwB W3 w0.heap.size v2 (m.b ++ b) := by
     have h := hown2
     rw [← List.map_append] at h
     exact h
    obtain ⟨A3, c3, rfl, -⟩ := hown2'.bs.open_
    obtain ⟨L3, hL3⟩ : ∃ n, n = (m.b ++ b).length := ⟨_, rfl⟩
    rw [← hL3] at hown2' hrun2
    clear hL3
    rw [hrun1] at q2 q3 q4
    simp only [resW, resV] at q2 q3 q4
    rw [hrun2] at q3 q4
    simp only [resW, resV] at q3 q4
    have brw0 := hM0.str.blk
    simp only [rstr, HV.out] at brw0
    have brw1 := brw0.ext hx01
    have brw2 := brw0.ext hx02
    have brw3 := brw0.ext hx03
    have hM3 := hM0.ext hx03
    obtain ⟨d0, d1, d2⟩ := hM3.cells (s := { s with n := n' }) HV.out HMM.out
    obtain ⟨-, x1, -⟩ := hM0.cells (s := { s with n := n' }) HV.out HMM.out
    obtain ⟨-, y1, -⟩ := (hM0.ext hx01).cells (s := { s with n := n' }) HV.out HMM.out
    obtain ⟨-, y2, -⟩ := (hM0.ext hx02).cells (s := { s with n := n' }) HV.out HMM.out
    rw [HMV.out] at d1 x1 y1 y2
    have z1 := hM3.frozen (s := { s with n := n' }) HV.out (i * 3 + 1)
    refine detT_pure rfl (.pointer (some ⟨br, 0, none⟩)) (fun _ _ => rfl) ?_ ?_
    ·rintro ρ ⟨h0, -⟩ w'
     have e0 : ρ 0 = .pointer (some ⟨br, 0, none⟩) := h0
     simp [execOp, evR, e0, go_sem]
    refine detT_pure rfl (.pointer (some ⟨br, 0, none⟩)) (fun _ _ => rfl) ?_ ?_
    ·rintro ρ ⟨h43, -⟩ w'
     have e43 : ρ 43 = .pointer (some ⟨br, 0, none⟩) := h43
     simp [execOp, evR, e43, go_sem]
    refine detT_pure rfl (.pointer (some ⟨br, 1, none⟩)) (fun _ _ => rfl) ?_ ?_
    ·rintro ρ ⟨h44, -⟩ w'
     have e44 : ρ 44 = .pointer (some ⟨br, 0, none⟩) := h44
     simp [execOp, evR, e44, go_sem]
    refine detT_read rfl (.slice (some ⟨g, 0, none⟩) n cF) (fun _ _ => rfl) ?_ ?_
    ·rintro ρ ⟨h45, -⟩ c hc1 hc2
     have e45 : ρ 45 = .pointer (some ⟨br, 1, none⟩) := h45
     have hc : c = 0 ∨ c = 1 ∨ c = 2 ∨ c = 3 := by have h1 : 0 ≤ c := hc1; have h2 : c ≤ 3 := hc2; omega
     rcases hc with rfl | rfl | rfl | rfl
     ·rw [q0]
      have c := brw0.cell (i := 1) rfl
      simp [execOp, evR, e45, c, go_sem]
     ·rw [q1]
      have c := brw1.cell (i := 1) rfl
      simp [execOp, evR, e45, c, go_sem]
     ·rw [q2]
      have c := brw2.cell (i := 1) rfl
      simp [execOp, evR, e45, c, go_sem]
     ·rw [q3]
      have c := brw3.cell (i := 1) rfl
      simp [execOp, evR, e45, c, go_sem]
    refine detT_pure rfl (.int .i64 (i : Int)) (fun _ _ => rfl) ?_ ?_
    ·rintro ρ ⟨h7, -⟩ w'
     have e7 : ρ 7 = .int .i64 (i : Int) := h7
     simp [execOp, evR, e7, go_sem]
    refine detT_turn rfl (.slice (some ⟨w0.heap.size, 0, none⟩) 0 0) (fun _ _ => rfl) ?_ ?_
    ·rintro ρ -
     show (execOp (evR ρ) _).run Tryz.prog (ws 0) = .ok (.value _) (ws 1)
     rw [q0, q1]
     simp [execOp, evR, go_sem]
    refine detT_pure rfl (.pointer (some ⟨br, 0, none⟩)) (fun _ _ => rfl) ?_ ?_
    ·rintro ρ ⟨h0, -⟩ w'
     have e0 : ρ 0 = .pointer (some ⟨br, 0, none⟩) := h0
     simp [execOp, evR, e0, go_sem]
    refine detT_pure rfl (.pointer (some ⟨br, 0, none⟩)) (fun _ _ => rfl) ?_ ?_
    ·rintro ρ ⟨h49, -⟩ w'
     have e49 : ρ 49 = .pointer (some ⟨br, 0, none⟩) := h49
     simp [execOp, evR, e49, go_sem]
    refine detT_pure rfl (.pointer (some ⟨br, 1, none⟩)) (fun _ _ => rfl) ?_ ?_
    ·rintro ρ ⟨h50, -⟩ w'
     have e50 : ρ 50 = .pointer (some ⟨br, 0, none⟩) := h50
     simp [execOp, evR, e50, go_sem]
    refine detT_read rfl (.slice (some ⟨g, 0, none⟩) n cF) (fun _ _ => rfl) ?_ ?_
    ·rintro ρ ⟨h51, -⟩ c hc1 hc2
     have e51 : ρ 51 = .pointer (some ⟨br, 1, none⟩) := h51
     have hc : c = 0 ∨ c = 1 ∨ c = 2 ∨ c = 3 := by have h1 : 0 ≤ c := hc1; have h2 : c ≤ 3 := hc2; omega
     rcases hc with rfl | rfl | rfl | rfl
     ·rw [q0]
      have c := brw0.cell (i := 1) rfl
      simp [execOp, evR, e51, c, go_sem]
     ·rw [q1]
      have c := brw1.cell (i := 1) rfl
      simp [execOp, evR, e51, c, go_sem]
     ·rw [q2]
      have c := brw2.cell (i := 1) rfl
      simp [execOp, evR, e51, c, go_sem]
     ·rw [q3]
      have c := brw3.cell (i := 1) rfl
      simp [execOp, evR, e51, c, go_sem]
    refine detT_pure rfl (.int .i64 (i : Int)) (fun _ _ => rfl) ?_ ?_
    ·rintro ρ ⟨h7, -⟩ w'
     have e7 : ρ 7 = .int .i64 (i : Int) := h7
     simp [execOp, evR, e7, go_sem]
    refine detT_pure rfl (.pointer (some ⟨g, i * 3, none⟩)) (fun _ _ => rfl) ?_ ?_
    ·rintro ρ ⟨h52, h53, -⟩ w'
     have e52 : ρ 52 = .slice (some ⟨g, 0, none⟩) n cF := h52
     have e53 : ρ 53 = .int .i64 (i : Int) := h53
     exact index_at3 rfl e52 e53 (by omega)
    refine detT_pure rfl (.pointer (some ⟨g, i * 3 + 1, none⟩)) (fun _ _ => rfl) ?_ ?_
    ·rintro ρ ⟨h54, -⟩ w'
     have e54 : ρ 54 = .pointer (some ⟨g, i * 3, none⟩) := h54
     simp [execOp, evR, e54, go_sem]
    refine detT_read rfl (.slice A1 m.b.length c1) (fun _ _ => rfl) ?_ ?_
    ·rintro ρ ⟨h55, -⟩ c hc1 hc2
     have e55 : ρ 55 = .pointer (some ⟨g, i * 3 + 1, none⟩) := h55
     have hc : c = 0 ∨ c = 1 := by have h1 : 0 ≤ c := hc1; have h2 : c ≤ 1 := hc2; omega
     rcases hc with rfl | rfl
     ·rw [q0]
      first
       | simp [execOp, evR, e55, x1, go_sem]; done
       | simp [execOp, evR, e55, y1, go_sem]; done
       | simp [execOp, evR, e55, y2, go_sem]; done
       | simp [execOp, evR, e55, d1, go_sem]; done
     ·rw [q1]
      first
       | simp [execOp, evR, e55, x1, go_sem]; done
       | simp [execOp, evR, e55, y1, go_sem]; done
       | simp [execOp, evR, e55, y2, go_sem]; done
       | simp [execOp, evR, e55, d1, go_sem]; done
    refine detT_turn rfl (v1) (fun _ _ => rfl) ?_ ?_
    ·rintro ρ ⟨h48, h56, -⟩
     have e48 : ρ 48 = .slice (some ⟨w0.heap.size, 0, none⟩) 0 0 := h48
     have e56 : ρ 56 = .slice A1 m.b.length c1 := h56
     show (execOp (evR ρ) _).run Tryz.prog (ws 1) = .ok (.value _) (ws 2)
     rw [q1, q2]
     simp only [execOp, resolve, invoke, builtin, evR, List.map_toArray, List.map_cons, List.map_nil, e48, e56, Sem.run_bind, Sem.run_pure, Result.andThen_ok, hrun1]
    refine detT_pure rfl (.slice A2 b.length c2) (fun _ _ => rfl) ?_ ?_
    ·rintro ρ ⟨h2, -⟩ w'
     have e2 : ρ 2 = .slice A2 b.length c2 := h2
     simp [execOp, evR, e2, go_sem]
    refine detT_turn rfl (.slice A3 L3 c3) (fun _ _ => rfl) ?_ ?_
    ·rintro ρ ⟨h57, h58, -⟩
     have e57 : ρ 57 = v1 := h57
     have e58 : ρ 58 = .slice A2 b.length c2 := h58
     show (execOp (evR ρ) _).run Tryz.prog (ws 2) = .ok (.value _) (ws 3)
     rw [q2, q3]
     simp only [execOp, resolve, invoke, builtin, evR, List.map_toArray, List.map_cons, List.map_nil, e57, e58, Sem.run_bind, Sem.run_pure, Result.andThen_ok, hrun2]
    refine detT_pure rfl (.pointer (some ⟨g, i * 3, none⟩)) (fun _ _ => rfl) ?_ ?_
    ·rintro ρ ⟨h46, h47, -⟩ w'
     have e46 : ρ 46 = .slice (some ⟨g, 0, none⟩) n cF := h46
     have e47 : ρ 47 = .int .i64 (i : Int) := h47
     exact index_at3 rfl e46 e47 (by omega)
    refine detT_pure rfl (.pointer (some ⟨g, i * 3 + 1, none⟩)) (fun _ _ => rfl) ?_ ?_
    ·rintro ρ ⟨h60, -⟩ w'
     have e60 : ρ 60 = .pointer (some ⟨g, i * 3, none⟩) := h60
     simp [execOp, evR, e60, go_sem]
    refine detT_store rfl (fun _ _ => rfl) ?_ ?_
    ·rintro ρ ⟨h61, h59, -⟩
     have e61 : ρ 61 = .pointer (some ⟨g, i * 3 + 1, none⟩) := h61
     have e59 : ρ 59 = .slice A3 L3 c3 := h59
     show (execOp (evR ρ) _).run Tryz.prog (ws 3) = .ok .skip (ws 4)
     rw [q3, q4]
     simp [execOp, evR, e61, e59, d1, z1, go_sem]
    simp only [DetT, applyV, Act.put, List.setIfInBounds_toArray, List.set_cons_zero, List.set_cons_succ]
    rw [q4]
    have hzz : z ≤ w0.heap.size := Nat.le_trans hz (Nat.le_trans hszW hext.size)
    have hbn : BsT z W3 (.slice A3 L3 c3) (m.b ++ b) := ⟨hown2'.bs, fun j hj => ⟨Nat.le_trans hzz ((BsT.of_owb hown2').typed j hj).1, ((BsT.of_owb hown2').typed j hj).2⟩⟩
    have hnew : ∀ j, (Value.slice A3 L3 c3).ownBlock = some j → w0.heap.size ≤ j := fun j hj => ((BsT.of_owb hown2').typed j hj).1
    have hfin : (s.ms.set i ({ m with v := .slice A3 L3 c3, b := m.b ++ b } : RFil)).map RFil.fil = (r1.upd name (fun f : Fil => { f with b := f.b ++ b })).fs :=
     set_fil (fs := r1.fs) (g := (fun f : Fil => { f with b := f.b ++ b })) HS.out.rk.fs HMM.out (by rw [HFS1.out]; exact HFIE.out) (by rw [HFS1.out]; exact HOK.out.apart) rfl
    have a1 := hM3.fput (i := i) (m := m) (m' := { m with v := .slice A3 L3 c3, b := m.b ++ b }) (r' := r1.upd name (fun f : Fil => { f with b := f.b ++ b })) HV.out HMM.out 1 (.slice A3 L3 c3) (rcells_set1 _ _ HMM.out) hbn rfl rfl hfin
    have hgv : s.v.ownBlock = some g := by rw [HV.out]; rfl
    have hkb := (HS.out.kb.trans (Kb.of_ext (fp := rall br s) (hext.trans hx03)) (fun _ h => .inl h)).trans (Kb.set (rall br s) W3 g (i * 3 + 1) (.slice A3 L3 c3) (.inr (.inl hgv))) (fun _ h => .inl h)
    have hst : RkS z _ _ br s r { s with n := n', ms := s.ms.set i { m with v := .slice A3 L3 c3, b := m.b ++ b } } (r1.upd name (fun f : Fil => { f with b := f.b ++ b })) := ⟨a1, hkb, fun k hk => by
     rcases hk with rfl | hk | ⟨x, hx, hk⟩
     ·exact .inl (.inl rfl)
     ·exact .inl (.inr (.inl hk))
     ·rcases List.mem_or_eq_of_mem_set hx with hx | rfl
      ·exact .inl (.inr (.inr ⟨x, hx, hk⟩))
      ·exact .inr (Nat.le_trans (Nat.le_trans hszW hext.size) (hnew k hk))⟩
    have HST := Lib.hid hst
    have kk7 : (W3.setCell ⟨g, i * 3 + 1, none⟩ (.slice A3 L3 c3)).cell? ⟨br, 7, none⟩ = some (.int .i64 s.k) := a1.str.blk.cell (i := 7) rfl
    have hne : br ≠ g := fun e => hM3.ne hgv e.symm
    have kk7' : W3.cell? ⟨br, 7, none⟩ = some (.int .i64 s.k) := hM3.str.blk.cell (i := 7) rfl
    have hzf := Nat.le_trans hz hkb.size
    have HZF := Lib.hid hzf
    clear a1 hkb hst hfin hbn hnew hown1 hown2 hown1' hown2' hrun1 hrun2 hgrow1 hgrow2 brw0 brw1 brw2 brw3 hM3 hM0 d0 d1 d2 x1 y1 y2 z1 q0 q1 q2 q3 q4 hx01 hx02 hx03 hzz kk1 ws hsz hzf
    cases hd : r.dead with
    | some k =>
     obtain ⟨rfl, rfl, hk⟩ := HD1.out k hd
     have HDD := Lib.hid (show (r1.upd name (fun f : Fil => { f with b := f.b ++ b })).dead = some k from hd)
     have HLO := Lib.hid (rlose_any HST.out.rk HOK1.out ⟨HSM.out.cnt, HSM.out.plan⟩ HZF.out k)
     rw [hk] at kk7 kk7'
     clear hd hk
     go_wp2_with fail
     refine HLO.out.mono ?_
     rintro e w2 ⟨rfl, s', hs⟩
     have HS2 := Lib.hid (HST.out.trans hs)
     clear hs
     go_wp2_with fail
     go_ret
     exact RkPost.lost HDD.out HS2.out
    | none =>
     obtain ⟨rfl, rfl⟩ := HD2.out hd
     have HDD := Lib.hid (show (r.upd name (fun f : Fil => { f with b := f.b ++ b })).dead = none from hd)
     have HTK := Lib.hid (show r.tick.upd name (fun f : Fil => { f with b := f.b ++ b }) = id (r.upd name (fun f : Fil => { f with b := f.b ++ b })).tick by
      unfold Dk.tick Dk.upd
      rcases r.plan with _ | ⟨_ | n, k⟩ <;> rfl)
     clear hd
     go_wp2_with fail
     go_ret
     exact RkPost.acted HDD.out (by rw [← HTK.out]; exact HST.out)
end Go.Proofs.YtagghghoimpofaaGreatDoor

/-
 Layer 15: Drop and Make of the document's disk.
-/
namespace Go.Proofs.YtagghghoimpofaaGreatDoor
open Go Go.RowKit Mono
set_option linter.unusedVariables false
set_option linter.unusedSimpArgs false
set_option maxRecDepth 100000
set_option maxHeartbeats 2000000
theorem infoFile : (Tryz.prog.info? 114).map (fun i => (i.zero, i.size, i.bytes)) = some (some (.agg #[.string ⟨#[]⟩, .slice none 0 0, .int .i64 0]), 3, 48) := by kernel_rfl
theorem row_mono {W : World} {z z' n size : Nat} {e : TypeId} {v : Value} {xs : List Value} (h : W.ownsRow z e size v n xs) (hz : z' ≤ z) : W.ownsRow z' e size v n xs := by
 refine ⟨h.1, ?_⟩
 rcases h.2 with h1 | ⟨g, cap, cur, h1, h2, rest⟩
 ·exact .inl h1
 ·exact .inr ⟨g, cap, cur, h1, Nat.le_trans hz h2, rest⟩
theorem erase_filter {fs : List Fil} {k : Nat} {name : List UInt8} (h : findI name fs = some k) (hp : fs.Pairwise fun a b => a.name ≠ b.name) : fs.eraseIdx k = fs.filter fun f => !(f.name == name) := by
 induction fs generalizing k with
 | nil => simp [findI] at h
 | cons a r ih =>
  obtain ⟨h1, h2⟩ := List.pairwise_cons.1 hp
  unfold findI at h ih
  rw [List.findIdx?_cons] at h
  by_cases ha : (a.name == name) = true
  ·rw [if_pos ha] at h
   injection h with h
   subst h
   have han : a.name = name := by simpa using ha
   rw [List.eraseIdx_cons_zero, List.filter_cons, ha]
   simp only [Bool.not_true, Bool.false_eq_true, if_false]
   symm
   refine List.filter_eq_self.2 fun x hx => ?_
   have := h1 x hx
   rw [han] at this
   simpa using fun e => this e.symm
  ·have ha' : (a.name == name) = false := by simpa using ha
   rw [if_neg ha] at h
   cases hx : r.findIdx? (fun f => f.name == name) with
   | none => rw [hx] at h; cases h
   | some j =>
    rw [hx] at h
    injection h with h
    subst h
    rw [List.eraseIdx_cons_succ, List.filter_cons, ha']
    simp only [Bool.not_false, if_true]
    rw [ih hx h2]
/-- The files so far, without the one of number k. -/
def dropTo (ms : List RFil) (k i : Nat) : List RFil := (ms.take i).eraseIdx k
theorem dropTo_at {ms : List RFil} {k : Nat} (h : k < ms.length) : dropTo ms k (k + 1) = dropTo ms k k := by
 unfold dropTo
 rw [List.take_add_one, List.getElem?_eq_getElem h]
 rw [List.eraseIdx_append_of_length_le (by simp; omega), List.eraseIdx_of_length_le (show (ms.take k).length ≤ k by simp; omega)]
 simp [Nat.min_eq_left (Nat.le_of_lt h)]
theorem dropTo_other {ms : List RFil} {k i : Nat} {m : RFil} (hm : ms[i]? = some m) (h : i ≠ k) : dropTo ms k (i + 1) = dropTo ms k i ++ [m] := by
 have hi := (List.getElem?_eq_some_iff.1 hm).1
 unfold dropTo
 rw [List.take_add_one, hm]
 rcases Nat.lt_or_ge i k with h1 | h1
 ·rw [List.eraseIdx_of_length_le (by simp; omega), List.eraseIdx_of_length_le (by simp; omega)]
  rfl
 ·rw [List.eraseIdx_append_of_lt_length (by simp; omega)]
  rfl
theorem dropTo_end (ms : List RFil) (k : Nat) : dropTo ms k ms.length = ms.eraseIdx k := by unfold dropTo; rw [List.take_length]
/-- The disk's slice is another one. -/
theorem RkM.swap {z br : Nat} {W : World} {s : RSt} {r : Dk} (h : RkM z W br s r) {v : Value} {ms : List RFil} (hrow : W.ownsRow z 114 3 v ms.length (rcells ms)) (hms : ∀ m ∈ ms, m ∈ s.ms ∨ m.v = .slice none 0 0 ∧ m.b = []) :
  RkS z W (W.setCell ⟨br, 1, none⟩ v) br s r { s with v := v, ms := ms } { r with fs := ms.map RFil.fil } → RkS z W (W.setCell ⟨br, 1, none⟩ v) br s r { s with v := v, ms := ms } { r with fs := ms.map RFil.fil } := fun h => h
theorem RkM.swapped {z br : Nat} {W : World} {s : RSt} {r : Dk} (h : RkM z W br s r) {v : Value} {ms : List RFil} (hrow : W.ownsRow z 114 3 v ms.length (rcells ms)) (hms : ∀ m ∈ ms, m ∈ s.ms ∨ m.v = .slice none 0 0 ∧ m.b = []) :
  RkM z (W.setCell ⟨br, 1, none⟩ v) br { s with v := v, ms := ms } { r with fs := ms.map RFil.fil } := by
 have hset := h.str.set 1 v
 have hkb := Kb.set (fun k => k = br) W br 1 v rfl
 refine ⟨rfl, hset, h.plan, row_kb hrow hkb (fun j hj e => ?_), fun m hm => ?_, h.zd⟩
 ·rcases hrow.2 with ⟨h1, _⟩ | ⟨g, cap, cur, h1, _, hb, _⟩
  ·rw [h1] at hj
   cases hj
  ·rw [h1] at hj
   obtain rfl : g = j := by simpa [Value.ownBlock] using hj
   subst e
   have := h.str
   unfold BlkT at this
   rw [this] at hb
   injection hb with hb
   injection hb with _ hb
   revert hb
   decide
 ·rcases hms m hm with h1 | ⟨h1, h2⟩
  ·exact (h.bytes m h1).kb hkb (fun j hj e => (h.bytes m h1).ne h.str (by decide) j hj e)
  ·rw [h1, h2]
   exact BsT.nil_ z _

theorem three_new (W : World) (T : TypeId) (a b c : Value) : ∀ (j : Nat) (u : Value), [a, b, c][j]? = some u → (W.alloc (.cells #[a, b, c] T)).cell? ((⟨W.heap.size, 0, none⟩ : Addr).add j) = some u := by
 intro j u hu
 rw [add_at]
 have hb := Blk.new W #[a, b, c] T
 have : (W.alloc (.cells #[a, b, c] T)).cell? ⟨W.heap.size, j, none⟩ = some u := hb.cell (i := j) hu
 simpa using this
theorem row_shape {W : World} {base n : Nat} {e : TypeId} {size : Nat} {v : Value} {xs : List Value} (h : W.ownsRow base e size v n xs) : ∃ A n c, v = .slice A n c := by
 rcases h.2 with ⟨rfl, _⟩ | ⟨g, cap, cur, rfl, _⟩
 ·exact ⟨_, _, _, rfl⟩
 ·exact ⟨_, _, _, rfl⟩
theorem grown_ext2 {W W' W0 : World} {v : Value} {base n : Nat} {e : TypeId} {size : Nat} {xs : List Value} (hx : Ext W0 W) (hrow : W.ownsRow base e size v n xs) (hb : W0.heap.size ≤ base) (hg : W.grownBy W' v.ownBlock) : Ext W0 W' :=
 ⟨hg.os.trans hx.os, hg.tape.trans hx.tape, hg.output.trans hx.output, Nat.le_trans hx.size hg.size, fun k hk => (hg.block k (Nat.lt_of_lt_of_le hk hx.size) (fun e => by have := (hrow.lt k e.symm).1; omega)).trans (hx.block k hk)⟩

theorem rdrop_any {z br : Nat} {W : World} {s : RSt} {r : Dk} (h : RkM z W br s r) (hok : r.Ok) (hsm : r.Small) (hz : z ≤ W.heap.size) (name : List UInt8) :
  Calls Tryz.prog 68 #[.pointer (some ⟨br, 0, none⟩), strV name] W (RkPost z W br s r (dDrop r name)) := by
 have HFI := Lib.hid (rfind_any h name)
 obtain ⟨A, cF, hv, f1, f2, f3⟩ := h.form
 have k1 := h.str.blk.cell (i := 1) rfl
 rw [hv] at k1
 have k2 := h.str.blk.cell (i := 2) rfl
 have k7 := h.str.blk.cell (i := 7) rfl
 have HH := Lib.hid h
 have HL := Lib.hid h.len
 obtain ⟨n, hn⟩ : ∃ n, n = s.ms.length := ⟨_, rfl⟩
 rw [← hn] at k1 f1 f3 hv
 have HN := Lib.hid hn
 have HV := Lib.hid hv
 have HOK := Lib.hid hok
 have HSM := Lib.hid hsm
 have HC := Lib.hid (rcounted_any h hsm)
 unfold maxLen at f2
 unfold strV at HFI ⊢
 clear h hn hv hok hsm
 cases hon : r.on
 ·have hres : dDrop r name = (r, 150) := by unfold dDrop; rw [if_pos hon]
  rw [hres]
  rw [hon] at k2
  simp only [Bool.not_false] at k2
  clear hon
  go_enter Tryz.func68, Tryz.ntmps68
  go_wp2_with fail
  go_ret
  exact RkPost.same HH.out (Ext.refl _) 150
 ·rw [hon] at k2
  simp only [Bool.not_true] at k2
  have HON := Lib.hid hon
  clear hon
  cases hfi : findI name r.fs with
  | none =>
   have hfn := (findI_spec name r.fs).2 hfi
   have hres : dDrop r name = (r, 152) := by unfold dDrop; rw [if_neg (by simp [HON.out]), hfn]
   rw [hres]
   rw [findZ_none hfi] at HFI
   clear hfi hfn
   go_enter Tryz.func68, Tryz.ntmps68
   go_wp2_with fail
   refine HFI.out.mono ?_
   rintro e w1 ⟨rfl, rfl⟩
   go_wp2_with fail
   go_ret
   exact RkPost.same HH.out (Ext.refl _) 152
  | some i =>
   obtain ⟨f, hf1, hf2⟩ := (findI_spec name r.fs).1 i hfi
   rw [findZ_some hfi] at HFI
   have hil : i < n := by rw [HN.out, HL.out]; exact (List.getElem?_eq_some_iff.1 hf1).1
   obtain ⟨g, rfl⟩ := f3 (by omega)
   obtain ⟨m, hm⟩ : ∃ m, s.ms[i]? = some m := ⟨_, List.getElem?_eq_getElem (by rw [← HN.out]; exact hil)⟩
   have hfe : f = m.fil := by have := HH.out.fil hm; rw [hf1] at this; injection this
   subst hfe
   obtain ⟨A1, c1, hmv, j1, j2, -, -⟩ := (HH.out.bytes m (List.mem_of_getElem? hm)).bs.open_
   have hlen : m.b.length ≤ 1048576 := HOK.out.len m.fil (List.mem_of_getElem? hf1)
   have hsure : m.sure ≤ m.b.length := HOK.out.sure m.fil (List.mem_of_getElem? hf1)
   have HFIE := Lib.hid hfi
   have HMM := Lib.hid hm
   have HMV := Lib.hid hmv
   have HF1 := Lib.hid hf1
   have HF2 := Lib.hid hf2
   have HFB := Lib.hid (show m.fil.b = m.b from rfl)
   clear hfi hm hmv hf1 hf2 f3
   have hres : dDrop r name = r.count (fun d : Dk => { d with fs := d.fs.filter fun f => !(f.name == name) }) := by unfold dDrop; rw [if_neg (by simp [HON.out]), HF2.out]
   rw [hres]
   cases hd : r.dead with
   | some k =>
    have HD := Lib.hid hd
    have HC1 := Lib.hid (HC.out.mono (fun e w' hx => hx.1 k hd))
    have HLO := Lib.hid (rlose_any HH.out HOK.out HSM.out hz k)
    clear hd
    go_enter Tryz.func68, Tryz.ntmps68
    go_wp2_with fail
    refine HFI.out.mono ?_
    rintro e w1 ⟨rfl, rfl⟩
    go_wp2_with fail
    refine HC1.out.mono ?_
    rintro e w1 ⟨rfl, rfl, hk⟩
    rw [hk] at k7
    clear hk
    go_wp2_with fail
    refine HLO.out.mono ?_
    rintro e w2 ⟨rfl, s', hs⟩
    have HS := Lib.hid hs
    clear hs
    go_wp2_with fail
    go_ret
    exact RkPost.lost HD.out HS.out
   | none =>
    have HD := Lib.hid hd
    have HC1 := Lib.hid (HC.out.mono (fun e w' hx => hx.2 hd))
    clear hd
    go_enter Tryz.func68, Tryz.ntmps68
    go_wp2_with fail
    refine HFI.out.mono ?_
    rintro e w1 ⟨rfl, rfl⟩
    go_wp2_with fail
    refine HC1.out.mono ?_
    rintro e w1 ⟨rfl, n', hs⟩
    have HS := Lib.hid hs
    have kk1 : w1.cell? ⟨br, 1, none⟩ = some s.v := hs.rk.str.blk.cell (i := 1) rfl
    rw [HV.out] at kk1
    clear hs
    have hkk1 := HS.out.rk.str.blk.cell (i := 1) rfl
    have HSZ := Lib.hid (Nat.le_trans hz HS.out.kb.size)
    obtain ⟨i0, HI0, HZ00, HZ10, HZ20⟩ := info_parts infoFile
    have HI := Lib.hid HI0
    have HZ0 := Lib.hid HZ00
    have HZ1 := Lib.hid HZ10
    have HZ2 := Lib.hid HZ20
    have hfew : n ≤ 64 := by rw [HN.out, HL.out]; exact HOK.out.few
    have hbr : br < w1.heap.size := HS.out.rk.str.lt
    clear hkk1 HI0 HZ00 HZ10 HZ20
    go_wp2_with fail
    go_loopw [6, 7] (fun ov jv wr => ∃ j : Nat, j ≤ n ∧ jv = .int .i64 j ∧ wr.ownsRow w1.heap.size 114 3 ov (dropTo s.ms i j).length (rcells (dropTo s.ms i j)) ∧ Ext w1 wr) (fun _ jv _ => n - (intOf jv).toNat)
    case atStart => exact ⟨0, Nat.zero_le _, rfl, by simpa [dropTo, rcells] using World.ownsRow_nil _ _ _ _, Ext.refl _⟩
    case round =>
     obtain ⟨j, hj, rfl, hrow, hx⟩ := hrel
     have HX := Lib.hid hx
     have HROW := Lib.hid hrow
     have kk := (hx.cell (p := ⟨br, 1, none⟩) hbr).trans kk1
     have hszx := hx.size
     by_cases hlt : j < n
     ·obtain ⟨mj, hmj⟩ : ∃ m, s.ms[j]? = some m := ⟨_, List.getElem?_eq_getElem (by rw [← HN.out]; exact hlt)⟩
      have hdl : (dropTo s.ms i j).length ≤ 64 := by
       have h1 : (dropTo s.ms i j).length ≤ (s.ms.take j).length := by unfold dropTo; rw [List.length_eraseIdx]; split <;> omega
       simp at h1
       omega
      by_cases hji : j = i
      ·subst hji
       have HE := Lib.hid (dropTo_at (ms := s.ms) (k := j) (by rw [← HN.out]; exact hlt))
       clear hrow hx hmj
       go_wp2_with fail
       go_roundw
       case rel => exact ⟨j + 1, by omega, by simp, by rw [HE.out]; exact HROW.out, HX.out⟩
       case measure => simp [intOf]; omega
      ·have hne : ¬ ((j : Int) = (i : Int)) := by omega
       have HE := Lib.hid (dropTo_other hmj hji)
       obtain ⟨c0, cc1, cc2⟩ := (HS.out.rk.ext hx).cells (s := { s with n := n' }) HV.out hmj
       obtain ⟨Aj, cj, hmvj, -⟩ := (HS.out.rk.bytes mj (List.mem_of_getElem? hmj)).bs.open_
       rw [hmvj] at cc1
       have HMVJ := Lib.hid hmvj
       unfold strV at c0
       clear hx hmj hmvj
       go_wp2_with (at_builtin; refine wpList_append_own _ rfl (.tmp 38) (.tmp 46) 43 rfl w1.heap.size 114 i0 (.agg #[.string ⟨#[]⟩, .slice none 0 0, .int .i64 0]) 3 48 Tryz.underlying43 HI.out HZ0.out HZ1.out HZ2.out rfl (by decide) _ _ _ rfl (hrow.alloc _) ⟨wr.heap.size, 0, none⟩ 1 1 [.string ⟨mj.name.toArray⟩, .slice Aj mj.b.length cj, .int .i64 (mj.sure : Int)] rfl rfl (three_new _ _ _ _ _) (by simp [Value.oneCell']) (by unfold maxLen; omega) (by omega) (by have := HX.out.size; simp; omega) ?_; intro v3 w3 hown3 hg3 hnil3; go_frame)
       go_roundw
       case rel =>
        refine ⟨j + 1, by omega, by simp, ?_, grown_ext2 (HX.out.trans (ext_alloc _ _)) (hrow.alloc _) (Nat.le_refl _) hg3⟩
        rw [HE.out, rcells_append]
        have hl : (dropTo s.ms i j ++ [mj]).length = (dropTo s.ms i j).length + 1 := by simp
        rw [hl]
        have hce : rcells [mj] = [strV mj.name, .slice Aj mj.b.length cj, .int .i64 (mj.sure : Int)] := by unfold rcells; simp [RFil.cells, HMVJ.out]
        rw [hce]
        exact hown3
       case measure => simp [intOf]; omega
     ·have hje : j = n := by omega
      have HJE := Lib.hid hje
      obtain ⟨A6, n6, c6, rfl⟩ := row_shape hrow
      have hM := HS.out.rk.ext hx
      have hrow' := row_mono hrow HSZ.out
      have hde : dropTo s.ms i j = s.ms.eraseIdx i := by rw [hje, HN.out]; exact dropTo_end _ _
      rw [hde] at hrow'
      have hsw := hM.swapped hrow' (fun x hx => .inl (List.mem_of_mem_eraseIdx hx))
      have hfs : (s.ms.eraseIdx i).map RFil.fil = ((fun d : Dk => { d with fs := d.fs.filter fun f => !(f.name == name) }) r.tick).fs := by
       show _ = r.tick.fs.filter _
       have e1 := HS.out.rk.fs
       rw [← erase_filter (show findI name r.tick.fs = some i by rw [tick_fs]; exact HFIE.out) (by rw [tick_fs]; exact HOK.out.apart), ← e1]
       rw [List.eraseIdx_eq_take_drop_succ, List.eraseIdx_eq_take_drop_succ]
       simp
      rw [hfs] at hsw
      have hob : ∀ k, (Value.ownBlock (.slice A6 n6 c6) = some k) → w1.heap.size ≤ k := fun k hk => (hrow.lt k hk).1
      have hkb := (Kb.of_ext (fp := rall br s) hx).trans (Kb.set (rall br s) wr br 1 (.slice A6 n6 c6) (.inl rfl)) (fun _ h => .inl h)
      have HFINAL := Lib.hid (HS.out.trans (⟨hsw, hkb, fun k hk => by
       rcases hk with rfl | hk | ⟨x, hx, hk⟩
       ·exact .inl (.inl rfl)
       ·exact .inr (hob k hk)
       ·exact .inl (.inr (.inr ⟨x, List.mem_of_mem_eraseIdx hx, hk⟩))⟩ : RkS z w1 _ br { s with n := n' } r.tick _ ((fun d : Dk => { d with fs := d.fs.filter fun f => !(f.name == name) }) r.tick)))
      have t1 := hM.str.blk.thaw 1
      clear hM hrow hrow' hsw hfs hkb hob hde hje hx
      go_wp2_with fail
      go_ret
      exact RkPost.acted HD.out HFINAL.out
end Go.Proofs.YtagghghoimpofaaGreatDoor

/-
 Layer 15: Make of the document's disk.
-/
namespace Go.Proofs.YtagghghoimpofaaGreatDoor
open Go Go.RowKit Mono
set_option linter.unusedVariables false
set_option linter.unusedSimpArgs false
set_option maxRecDepth 100000
set_option maxHeartbeats 2000000
/-- A new file is put in its place. -/
def insR (x : RFil) : List RFil → List RFil
 | [] => [x]
 | m :: r => if Op.bytesLess x.name m.name = true then x :: m :: r else m :: insR x r
theorem insR_fil (x : RFil) (hb : x.b = []) (hs : x.sure = 0) : ∀ ms : List RFil, (insR x ms).map RFil.fil = insF x.name (ms.map RFil.fil)
 | [] => by simp [insR, insF, RFil.fil, hb, hs]
 | m :: r => by
  have ih := insR_fil x hb hs r
  unfold insR
  simp only [List.map_cons]
  unfold insF
  have : (RFil.fil m).name = m.name := rfl
  rw [this]
  split
  ·simp [RFil.fil, hb, hs]
  ·simp [ih]
theorem insR_mem {x y : RFil} : ∀ {ms : List RFil}, y ∈ insR x ms ↔ y = x ∨ y ∈ ms
 | [] => by simp [insR]
 | m :: r => by
  unfold insR
  split
  ·simp
  ·simp [insR_mem (ms := r)]
   constructor
   ·rintro (h | h | h)
    ·exact .inr (.inl h)
    ·exact .inl h
    ·exact .inr (.inr h)
   ·rintro (h | h | h)
    ·exact .inr (.inl h)
    ·exact .inl h
    ·exact .inr (.inr h)
theorem insR_none {x : RFil} : ∀ {l : List RFil}, (∀ m ∈ l, Op.bytesLess x.name m.name = false) → insR x l = l ++ [x]
 | [], _ => rfl
 | m :: r, h => by
  unfold insR
  rw [if_neg (by simp [h m List.mem_cons_self]), insR_none (fun y hy => h y (List.mem_cons_of_mem _ hy))]
  rfl
theorem insR_some {x m' : RFil} : ∀ {l : List RFil}, (∃ m ∈ l, Op.bytesLess x.name m.name = true) → insR x (l ++ [m']) = insR x l ++ [m']
 | [], h => by obtain ⟨m, hm, _⟩ := h; cases hm
 | m :: r, h => by
  rw [List.cons_append]
  unfold insR
  split
  ·rfl
  ·rename_i hn
   obtain ⟨y, hy, hl⟩ := h
   rcases List.mem_cons.1 hy with rfl | hy
   ·exact absurd hl hn
   ·rw [insR_some ⟨y, hy, hl⟩]
    rfl
theorem insR_here {x m' : RFil} : ∀ {l : List RFil}, (∀ m ∈ l, Op.bytesLess x.name m.name = false) → Op.bytesLess x.name m'.name = true → insR x (l ++ [m']) = (l ++ [x]) ++ [m']
 | [], _, h => by unfold insR; rw [List.nil_append]; simp [h]
 | m :: r, hn, h => by
  rw [List.cons_append]
  unfold insR
  rw [if_neg (by simp [hn m List.mem_cons_self]), insR_here (fun y hy => hn y (List.mem_cons_of_mem _ hy)) h]
  rfl
/-- The files so far, and whether the new one is among them. -/
structure Mk (x : RFil) (ms : List RFil) (i : Nat) (done : Bool) (out : List RFil) : Prop where
 yes : done = true → (∃ m ∈ ms.take i, Op.bytesLess x.name m.name = true) ∧ out = insR x (ms.take i)
 no : done = false → (∀ m ∈ ms.take i, Op.bytesLess x.name m.name = false) ∧ out = ms.take i
theorem Mk.start (x : RFil) (ms : List RFil) : Mk x ms 0 false [] := ⟨fun h => (by cases h), fun _ => ⟨fun m hm => by simp at hm, by simp⟩⟩
theorem Mk.on_ {x m : RFil} {ms out : List RFil} {i : Nat} (h : Mk x ms i true out) (hm : ms[i]? = some m) : Mk x ms (i + 1) true (out ++ [m]) := by
 obtain ⟨⟨y, hy, hl⟩, rfl⟩ := h.yes rfl
 refine ⟨fun _ => ?_, fun h => by cases h⟩
 rw [List.take_add_one, hm]
 exact ⟨⟨y, by simp [hy], hl⟩, (insR_some ⟨y, hy, hl⟩).symm⟩
theorem Mk.off {x m : RFil} {ms out : List RFil} {i : Nat} (h : Mk x ms i false out) (hm : ms[i]? = some m) (hl : Op.bytesLess x.name m.name = false) : Mk x ms (i + 1) false (out ++ [m]) := by
 obtain ⟨h1, rfl⟩ := h.no rfl
 refine ⟨fun h => (by cases h), fun _ => ?_⟩
 rw [List.take_add_one, hm]
 refine ⟨fun y hy => ?_, rfl⟩
 rcases List.mem_append.1 hy with hy | hy
 ·exact h1 y hy
 ·simp at hy
  rw [hy]
  exact hl
theorem Mk.here {x m : RFil} {ms out : List RFil} {i : Nat} (h : Mk x ms i false out) (hm : ms[i]? = some m) (hl : Op.bytesLess x.name m.name = true) : Mk x ms (i + 1) true ((out ++ [x]) ++ [m]) := by
 obtain ⟨h1, rfl⟩ := h.no rfl
 refine ⟨fun _ => ?_, fun h => by cases h⟩
 rw [List.take_add_one, hm]
 exact ⟨⟨m, by simp, hl⟩, (insR_here h1 hl).symm⟩
theorem Mk.end_yes {x : RFil} {ms out : List RFil} (h : Mk x ms ms.length true out) : out = insR x ms := by
 obtain ⟨_, h⟩ := h.yes rfl
 rw [h, List.take_length]
theorem Mk.end_no {x : RFil} {ms out : List RFil} (h : Mk x ms ms.length false out) : out ++ [x] = insR x ms := by
 obtain ⟨h1, h⟩ := h.no rfl
 rw [List.take_length] at h h1
 rw [h, insR_none h1]
theorem make_fin {z br : Nat} {W w1 wr : World} {s : RSt} {r : Dk} {n' : Int} {name : List UInt8} {v : Value} (HS : RkS z W w1 br s r { s with n := n' } r.tick) (hz : z ≤ w1.heap.size) (hx : Ext w1 wr)
  (hrow : wr.ownsRow w1.heap.size 114 3 v (insR ⟨name, .slice none 0 0, [], 0⟩ s.ms).length (rcells (insR ⟨name, .slice none 0 0, [], 0⟩ s.ms))) :
  RkS z W (wr.setCell ⟨br, 1, none⟩ v) br s r { s with n := n', v := v, ms := insR ⟨name, .slice none 0 0, [], 0⟩ s.ms } ((fun d : Dk => { d with fs := insF name d.fs }) r.tick) := by
 have hM := HS.rk.ext hx
 have hsw := hM.swapped (row_mono hrow hz) (fun y hy => by
  rcases insR_mem.1 hy with rfl | hy
  ·exact .inr ⟨rfl, rfl⟩
  ·exact .inl hy)
 have hfs : (insR ⟨name, .slice none 0 0, [], 0⟩ s.ms).map RFil.fil = ((fun d : Dk => { d with fs := insF name d.fs }) r.tick).fs := by
  rw [insR_fil _ rfl rfl]
  show insF name _ = insF name _
  rw [show s.ms.map RFil.fil = r.tick.fs from HS.rk.fs]
 rw [hfs] at hsw
 refine HS.trans ⟨hsw, (Kb.of_ext (fp := rall br { s with n := n' }) hx).trans (Kb.set (rall br { s with n := n' }) wr br 1 v (.inl rfl)) (fun _ h => .inl h), fun k hk => ?_⟩
 rcases hk with rfl | hk | ⟨y, hy, hk⟩
 ·exact .inl (.inl rfl)
 ·exact .inr ((hrow.lt k hk).1)
 ·rcases insR_mem.1 hy with rfl | hy
  ·cases hk
  ·exact .inl (.inr (.inr ⟨y, hy, hk⟩))
theorem Mk.len {x : RFil} {ms out : List RFil} {i : Nat} {d : Bool} (h : Mk x ms i d out) (hi : i ≤ ms.length) : out.length ≤ i + 1 := by
 cases d with
 | false =>
  rw [(h.no rfl).2]
  simp
  omega
 | true =>
  rw [(h.yes rfl).2]
  have : ∀ l : List RFil, (insR x l).length = l.length + 1 := by
   intro l
   induction l with
   | nil => rfl
   | cons a r ih =>
    unfold insR
    split
    ·rfl
    ·simp [ih]
  rw [this]
  simp
  omega

theorem rmake_any {z br : Nat} {W : World} {s : RSt} {r : Dk} (h : RkM z W br s r) (hok : r.Ok) (hsm : r.Small) (hz : z ≤ W.heap.size) (name : List UInt8) (hl : name.length ≤ maxLen) :
  Calls Tryz.prog 55 #[.pointer (some ⟨br, 0, none⟩), strV name] W (RkPost z W br s r (dMake r name)) := by
 have HFI := Lib.hid (rfind_any h name)
 have HG := Lib.hid (refDkGood_any name W hl)
 obtain ⟨A, cF, hv, f1, f2, f3⟩ := h.form
 have k1 := h.str.blk.cell (i := 1) rfl
 rw [hv] at k1
 have k2 := h.str.blk.cell (i := 2) rfl
 have k7 := h.str.blk.cell (i := 7) rfl
 have HH := Lib.hid h
 have HL := Lib.hid h.len
 obtain ⟨n, hn⟩ : ∃ n, n = s.ms.length := ⟨_, rfl⟩
 rw [← hn] at k1 f1 f3 hv
 have HN := Lib.hid hn
 have HV := Lib.hid hv
 have HOK := Lib.hid hok
 have HSM := Lib.hid hsm
 have HC := Lib.hid (rcounted_any h hsm)
 have HF3 := Lib.hid f3
 unfold maxLen at f2
 unfold strV at HFI HG ⊢
 clear h hn hv hok hsm f3
 cases hon : r.on
 ·have hres : dMake r name = (r, 150) := by unfold dMake; rw [if_pos hon]
  rw [hres]
  rw [hon] at k2
  simp only [Bool.not_false] at k2
  clear hon
  go_enter Tryz.func55, Tryz.ntmps55
  go_wp2_with fail
  go_ret
  exact RkPost.same HH.out (Ext.refl _) 150
 ·rw [hon] at k2
  simp only [Bool.not_true] at k2
  have HON := Lib.hid hon
  clear hon
  cases hdn : dname name
  ·have hres : dMake r name = (r, 2) := by unfold dMake; rw [if_neg (by simp [HON.out]), if_pos hdn]
   rw [hres]
   rw [hdn] at HG
   clear hdn
   go_enter Tryz.func55, Tryz.ntmps55
   go_wp2_with fail
   refine HG.out.mono ?_
   rintro e w1 ⟨rfl, rfl⟩
   go_wp2_with fail
   go_ret
   exact RkPost.same HH.out (Ext.refl _) 2
  ·rw [hdn] at HG
   have HDN := Lib.hid hdn
   clear hdn
   cases hfi : findI name r.fs with
   | some i =>
    obtain ⟨f, hf1, hf2⟩ := (findI_spec name r.fs).1 i hfi
    have hres : dMake r name = (r, 153) := by unfold dMake; rw [if_neg (by simp [HON.out]), if_neg (by simp [HDN.out]), if_pos (by rw [hf2]; rfl)]
    rw [hres]
    rw [findZ_some hfi] at HFI
    clear hfi hf1 hf2
    go_enter Tryz.func55, Tryz.ntmps55
    go_wp2_with fail
    refine HG.out.mono ?_
    rintro e w1 ⟨rfl, rfl⟩
    go_wp2_with fail
    refine HFI.out.mono ?_
    rintro e w1 ⟨rfl, rfl⟩
    go_wp2_with fail
    go_ret
    exact RkPost.same HH.out (Ext.refl _) 153
   | none =>
    have hfn := (findI_spec name r.fs).2 hfi
    rw [findZ_none hfi] at HFI
    have HFN := Lib.hid hfn
    clear hfi hfn
    by_cases h64 : 64 ≤ n
    ·have hres : dMake r name = (r, 151) := by unfold dMake; rw [if_neg (by simp [HON.out]), if_neg (by simp [HDN.out]), if_neg (by rw [HFN.out]; simp), if_pos (by rw [← HL.out, ← HN.out]; exact h64)]
     rw [hres]
     go_enter Tryz.func55, Tryz.ntmps55
     go_wp2_with fail
     refine HG.out.mono ?_
     rintro e w1 ⟨rfl, rfl⟩
     go_wp2_with fail
     refine HFI.out.mono ?_
     rintro e w1 ⟨rfl, rfl⟩
     go_wp2_with fail
     go_ret
     exact RkPost.same HH.out (Ext.refl _) 151
    have hres : dMake r name = r.count (fun d : Dk => { d with fs := insF name d.fs }) := by unfold dMake; rw [if_neg (by simp [HON.out]), if_neg (by simp [HDN.out]), if_neg (by rw [HFN.out]; simp), if_neg (by rw [← HL.out, ← HN.out]; exact h64)]
    rw [hres]
    cases hd : r.dead with
    | some k =>
     have HD := Lib.hid hd
     have HC1 := Lib.hid (HC.out.mono (fun e w' hx => hx.1 k hd))
     have HLO := Lib.hid (rlose_any HH.out HOK.out HSM.out hz k)
     clear hd
     go_enter Tryz.func55, Tryz.ntmps55
     go_wp2_with fail
     refine HG.out.mono ?_
     rintro e w1 ⟨rfl, rfl⟩
     go_wp2_with fail
     refine HFI.out.mono ?_
     rintro e w1 ⟨rfl, rfl⟩
     go_wp2_with fail
     refine HC1.out.mono ?_
     rintro e w1 ⟨rfl, rfl, hk⟩
     rw [hk] at k7
     clear hk
     go_wp2_with fail
     refine HLO.out.mono ?_
     rintro e w2 ⟨rfl, s', hs⟩
     have HS := Lib.hid hs
     clear hs
     go_wp2_with fail
     go_ret
     exact RkPost.lost HD.out HS.out
    | none =>
     have HD := Lib.hid hd
     have HC1 := Lib.hid (HC.out.mono (fun e w' hx => hx.2 hd))
     clear hd
     go_enter Tryz.func55, Tryz.ntmps55
     go_wp2_with fail
     refine HG.out.mono ?_
     rintro e w1 ⟨rfl, rfl⟩
     go_wp2_with fail
     refine HFI.out.mono ?_
     rintro e w1 ⟨rfl, rfl⟩
     go_wp2_with fail
     refine HC1.out.mono ?_
     rintro e w1 ⟨rfl, n', hs⟩
     have HS := Lib.hid hs
     have kk1 : w1.cell? ⟨br, 1, none⟩ = some s.v := hs.rk.str.blk.cell (i := 1) rfl
     rw [HV.out] at kk1
     have HSZ := Lib.hid (Nat.le_trans hz hs.kb.size)
     obtain ⟨i0, HI0, HZ00, HZ10, HZ20⟩ := info_parts infoFile
     have HI := Lib.hid HI0
     have HZ0 := Lib.hid HZ00
     have HZ1 := Lib.hid HZ10
     have HZ2 := Lib.hid HZ20
     have hbr : br < w1.heap.size := hs.rk.str.lt
     clear hs HI0 HZ00 HZ10 HZ20
     go_wp2_with fail
     go_loopw [5, 6, 7] (fun ov dv jv wr => ∃ (j : Nat) (db : Bool) (out : List RFil), j ≤ n ∧ jv = .int .i64 j ∧ dv = .bool db ∧ Mk ⟨name, .slice none 0 0, [], 0⟩ s.ms j db out ∧ wr.ownsRow w1.heap.size 114 3 ov out.length (rcells out) ∧ Ext w1 wr) (fun _ _ jv _ => n - (intOf jv).toNat)
     case atStart => exact ⟨0, false, [], Nat.zero_le _, rfl, rfl, Mk.start _ _, by simpa [rcells] using World.ownsRow_nil _ _ _ _, Ext.refl _⟩
     case round =>
      obtain ⟨j, db, out, hj, rfl, rfl, hmk, hrow, hx⟩ := hrel
      have HX := Lib.hid hx
      have HROW := Lib.hid hrow
      have HMK := Lib.hid hmk
      have kk := (hx.cell (p := ⟨br, 1, none⟩) hbr).trans kk1
      have hszx := hx.size
      have hol : out.length ≤ 65 := by have := hmk.len (by rw [← HN.out]; exact hj); omega
      by_cases hlt : j < n
      ·obtain ⟨g, rfl⟩ := HF3.out (by omega)
       obtain ⟨mj, hmj⟩ : ∃ m, s.ms[j]? = some m := ⟨_, List.getElem?_eq_getElem (by rw [← HN.out]; exact hlt)⟩
       obtain ⟨c0, cc1, cc2⟩ := (HS.out.rk.ext hx).cells (s := { s with n := n' }) HV.out hmj
       obtain ⟨Aj, cj, hmvj, -⟩ := (HS.out.rk.bytes mj (List.mem_of_getElem? hmj)).bs.open_
       rw [hmvj] at cc1
       have HMVJ := Lib.hid hmvj
       have HMJ := Lib.hid hmj
       unfold strV at c0
       clear hx hmj hmvj hmk
       have hsl := HX.out.size
       cases db with
       | true =>
        go_wp2_with (at_builtin; refine wpList_append_own _ rfl (.tmp 62) (.tmp 70) 43 rfl w1.heap.size 114 i0 (.agg #[.string ⟨#[]⟩, .slice none 0 0, .int .i64 0]) 3 48 Tryz.underlying43 HI.out HZ0.out HZ1.out HZ2.out rfl (by decide) _ _ _ rfl (hrow.alloc _) ⟨wr.heap.size, 0, none⟩ 1 1 [.string ⟨mj.name.toArray⟩, .slice Aj mj.b.length cj, .int .i64 (mj.sure : Int)] rfl rfl (three_new _ _ _ _ _) (by simp [Value.oneCell']) (by unfold maxLen; omega) (by omega) (by have := HX.out.size; simp; omega) ?_; intro v3 w3 hown3 hg3 hnilv3; go_frame)
        go_roundw
        case rel =>
         refine ⟨j + 1, true, out ++ [mj], by omega, by simp, rfl, HMK.out.on_ HMJ.out, ?_, grown_ext2 (HX.out.trans (ext_alloc _ _)) (hrow.alloc _) (Nat.le_refl _) hg3⟩
         rw [rcells_append]
         have hl : (out ++ [mj]).length = (out).length + 1 := by simp
         rw [hl]
         have hce : rcells [mj] = [strV mj.name, .slice Aj mj.b.length cj, .int .i64 (mj.sure : Int)] := by unfold rcells; simp [RFil.cells, HMVJ.out]
         rw [hce]
         exact hown3
        case measure => simp [intOf]; omega
       | false =>
        have hnn : mj.name ≠ name := by
         have hmem : mj.fil ∈ r.fs := by rw [← HH.out.fs]; exact List.mem_map.2 ⟨mj, List.mem_of_getElem? HMJ.out, rfl⟩
         exact findF_none HFN.out mj.fil hmem
        have heq : (mj.name == name) = false := by simpa using hnn
        cases hbl : Op.bytesLess name mj.name
        ·have HBL := Lib.hid hbl
         have hba : Op.bytesLess mj.name name = true := bl_total hbl (fun e => hnn e.symm)
         clear hbl hnn
         go_wp2_with (at_builtin; refine wpList_append_own _ rfl (.tmp 62) (.tmp 70) 43 rfl w1.heap.size 114 i0 (.agg #[.string ⟨#[]⟩, .slice none 0 0, .int .i64 0]) 3 48 Tryz.underlying43 HI.out HZ0.out HZ1.out HZ2.out rfl (by decide) _ _ _ rfl (hrow.alloc _) ⟨wr.heap.size, 0, none⟩ 1 1 [.string ⟨mj.name.toArray⟩, .slice Aj mj.b.length cj, .int .i64 (mj.sure : Int)] rfl rfl (three_new _ _ _ _ _) (by simp [Value.oneCell']) (by unfold maxLen; omega) (by omega) (by have := HX.out.size; simp; omega) ?_; intro v3 w3 hown3 hg3 hnilv3; go_frame)
         go_roundw
         case rel =>
          refine ⟨j + 1, false, out ++ [mj], by omega, by simp, rfl, HMK.out.off HMJ.out HBL.out, ?_, grown_ext2 (HX.out.trans (ext_alloc _ _)) (hrow.alloc _) (Nat.le_refl _) hg3⟩
          rw [rcells_append]
          have hl : (out ++ [mj]).length = (out).length + 1 := by simp
          rw [hl]
          have hce : rcells [mj] = [strV mj.name, .slice Aj mj.b.length cj, .int .i64 (mj.sure : Int)] := by unfold rcells; simp [RFil.cells, HMVJ.out]
          rw [hce]
          exact hown3
         case measure => simp [intOf]; omega
        ·have HBL := Lib.hid hbl
         have hba : Op.bytesLess mj.name name = false := by
          cases hq : Op.bytesLess mj.name name with
          | false => rfl
          | true =>
           have := bl_trans hbl hq
           rw [bl_irrefl] at this
           cases this
         clear hbl hnn
         go_wp2_with (first
          | (at_builtin; refine wpList_append_own _ rfl (.tmp 57) (.tmp 60) 43 rfl w1.heap.size 114 i0 (.agg #[.string ⟨#[]⟩, .slice none 0 0, .int .i64 0]) 3 48 Tryz.underlying43 HI.out HZ0.out HZ1.out HZ2.out rfl (by decide) _ _ _ rfl (hrow.alloc _) ⟨wr.heap.size, 0, none⟩ 1 1 [.string ⟨name.toArray⟩, .slice none 0 0, .int .i64 0] rfl rfl (three_new _ _ _ _ _) (by simp [Value.oneCell']) (by unfold maxLen; omega) (by omega) (by have := HX.out.size; simp; omega) ?_; intro v3 w3 hown3 hg3 hnilv3; go_frame; have hx3 : Ext w1 w3 := grown_ext2 (HX.out.trans (ext_alloc _ _)) (hrow.alloc _) (Nat.le_refl _) hg3; have hce1 : rcells [(⟨name, .slice none 0 0, [], 0⟩ : RFil)] = [.string ⟨name.toArray⟩, .slice none 0 0, .int .i64 ((0 : Nat) : Int)] := rfl; have hrow3 : w3.ownsRow w1.heap.size 114 3 v3 (out ++ [(⟨name, .slice none 0 0, [], 0⟩ : RFil)]).length (rcells (out ++ [(⟨name, .slice none 0 0, [], 0⟩ : RFil)])) := (by rw [rcells_append, hce1, List.length_append]; exact hown3); obtain ⟨c0, cc1, cc2⟩ := (HS.out.rk.ext hx3).cells (s := { s with n := n' }) HV.out HMJ.out; rw [HMVJ.out] at cc1; have kk3 := (hx3.cell (p := ⟨br, 1, none⟩) hbr).trans kk1; have HR3 := Lib.hid hrow3; have HX3 := Lib.hid hx3; unfold strV at c0; have hol3 : (out ++ [(⟨name, .slice none 0 0, [], 0⟩ : RFil)]).length ≤ 66 := (by simp; omega); have hsz3 := hx3.size; clear hown3 hg3 hnilv3 hce1 hx3 hrow3)
          | (at_builtin; refine wpList_append_own _ rfl (.tmp 62) (.tmp 70) 43 rfl w1.heap.size 114 i0 (.agg #[.string ⟨#[]⟩, .slice none 0 0, .int .i64 0]) 3 48 Tryz.underlying43 HI.out HZ0.out HZ1.out HZ2.out rfl (by decide) _ _ _ rfl (HR3.out.alloc _) ⟨w3.heap.size, 0, none⟩ 1 1 [.string ⟨mj.name.toArray⟩, .slice Aj mj.b.length cj, .int .i64 (mj.sure : Int)] rfl rfl (three_new _ _ _ _ _) (by simp [Value.oneCell']) (by unfold maxLen; omega) (by omega) (by have := hsz3; simp; omega) ?_; intro v4 w4 hown4 hg4 hnilv4; go_frame))
         go_roundw
         case rel =>
          refine ⟨j + 1, true, (out ++ [(⟨name, .slice none 0 0, [], 0⟩ : RFil)]) ++ [mj], by omega, by simp, rfl, HMK.out.here HMJ.out HBL.out, ?_, grown_ext2 (HX3.out.trans (ext_alloc _ _)) (HR3.out.alloc _) (Nat.le_refl _) hg4⟩
          rw [rcells_append]
          have hl : ((out ++ [(⟨name, .slice none 0 0, [], 0⟩ : RFil)]) ++ [mj]).length = ((out ++ [(⟨name, .slice none 0 0, [], 0⟩ : RFil)])).length + 1 := by simp
          rw [hl]
          have hce : rcells [mj] = [strV mj.name, .slice Aj mj.b.length cj, .int .i64 (mj.sure : Int)] := by unfold rcells; simp [RFil.cells, HMVJ.out]
          rw [hce]
          exact hown4
         case measure => simp [intOf]; omega
      ·have hje : j = n := by omega
       have hjl : j = s.ms.length := by rw [hje, HN.out]
       have t1 := (HS.out.rk.ext hx).str.blk.thaw 1
       cases db with
       | true =>
        have ho := (hjl ▸ hmk).end_yes
        subst ho
        obtain ⟨A6, n6, c6, rfl⟩ := row_shape hrow
        have HFINAL := Lib.hid (make_fin HS.out HSZ.out hx hrow)
        clear hjl hx hrow hje hmk HROW HMK
        go_wp2_with fail
        go_ret
        exact RkPost.acted HD.out HFINAL.out
       | false =>
        have HO := Lib.hid (hjl ▸ hmk).end_no
        clear hjl hje hmk HMK hx
        go_wp2_with (at_builtin; refine wpList_append_own _ rfl (.tmp 74) (.tmp 77) 43 rfl w1.heap.size 114 i0 (.agg #[.string ⟨#[]⟩, .slice none 0 0, .int .i64 0]) 3 48 Tryz.underlying43 HI.out HZ0.out HZ1.out HZ2.out rfl (by decide) _ _ _ rfl (hrow.alloc _) ⟨wr.heap.size, 0, none⟩ 1 1 [.string ⟨name.toArray⟩, .slice none 0 0, .int .i64 0] rfl rfl (three_new _ _ _ _ _) (by simp [Value.oneCell']) (by unfold maxLen; omega) (by omega) (by have := HX.out.size; simp; omega) ?_; intro v3 w3 hown3 hg3 hnilv3; go_frame; have hx3 : Ext w1 w3 := grown_ext2 (HX.out.trans (ext_alloc _ _)) (hrow.alloc _) (Nat.le_refl _) hg3; have hce1 : rcells [(⟨name, .slice none 0 0, [], 0⟩ : RFil)] = [.string ⟨name.toArray⟩, .slice none 0 0, .int .i64 ((0 : Nat) : Int)] := rfl; have hrow3 : w3.ownsRow w1.heap.size 114 3 v3 (out ++ [(⟨name, .slice none 0 0, [], 0⟩ : RFil)]).length (rcells (out ++ [(⟨name, .slice none 0 0, [], 0⟩ : RFil)])) := (by rw [rcells_append, hce1, List.length_append]; exact hown3); rw [HO.out] at hrow3; obtain ⟨A6, n6, c6, rfl⟩ := row_shape hrow3; have HFINAL := Lib.hid (make_fin HS.out HSZ.out hx3 hrow3); have kk3 := (hx3.cell (p := ⟨br, 1, none⟩) hbr).trans kk1; have t3 := (HS.out.rk.ext hx3).str.blk.thaw 1; clear hown3 hg3 hnilv3 hce1 hx3 hrow3)
        go_ret
        exact RkPost.acted HD.out HFINAL.out
end Go.Proofs.YtagghghoimpofaaGreatDoor
