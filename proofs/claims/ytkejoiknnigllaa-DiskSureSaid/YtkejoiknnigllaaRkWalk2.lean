/-
  Layer 15: the document's disk: how many bytes, the names, an operation counted, a file's bytes.
-/
import Derived.Test.YtkejoiknnigllaaDkNames
namespace Go.Proofs.Ytkejoiknnigllaa
open Go Go.RowKit Mono
set_option linter.unusedVariables false
set_option linter.unusedSimpArgs false
set_option maxRecDepth 100000
set_option maxHeartbeats 1000000

def sumTo (fs : List Fil) (k : Nat) : Nat := usedF (fs.take k)
theorem sumTo_step {fs : List Fil} {k : Nat} {f : Fil} (h : fs[k]? = some f) : sumTo fs (k + 1) = sumTo fs k + f.b.length := by
  unfold sumTo usedF
  rw [List.take_add_one, h]
  simp
theorem sumTo_le (fs : List Fil) (k : Nat) : sumTo fs k ≤ usedF fs := by
  have e : usedF fs = sumTo fs k + usedF (fs.drop k) := by
    unfold sumTo usedF
    rw [← List.sum_append, ← List.map_append, List.take_append_drop]
  omega
theorem sumTo_end (fs : List Fil) : sumTo fs fs.length = usedF fs := by unfold sumTo; rw [List.take_length]

theorem rused_any {z br : Nat} {W : World} {s : RSt} {r : Dk} (h : RkM z W br s r) (hok : r.Ok) :
    Calls Try.prog 54 #[.pointer (some ⟨br, 0, none⟩)] W fun e w' => e = .returned (.int .i64 (r.used : Int)) ∧ w' = W := by
  obtain ⟨A, c, hv, f1, f2, f3⟩ := h.form
  have k1 := h.str.blk.cell (i := 1) rfl
  rw [hv] at k1
  have HH := Lib.hid h
  have HL := Lib.hid h.len
  obtain ⟨n, hn⟩ : ∃ n, n = s.ms.length := ⟨_, rfl⟩
  rw [← hn] at k1 f1 f3 hv
  have HN := Lib.hid hn
  have HV := Lib.hid hv
  unfold maxLen at f2
  have hub : usedF r.fs ≤ 1073741824 := Nat.le_trans hok.used hok.room
  clear h hn hv hok
  go_enter Try.func54, Try.ntmps54
  go_wp2_with fail
  go_loopw [3, 4] (fun t i wr => ∃ k : Nat, k ≤ n ∧ i = .int .i64 k ∧ t = .int .i64 (sumTo r.fs k : Int) ∧ wr = W) (fun _ i _ => n - (intOf i).toNat)
  case atStart => exact ⟨0, Nat.zero_le _, rfl, by simp [sumTo, usedF], rfl⟩
  case round =>
    obtain ⟨i, hi, rfl, rfl, rfl⟩ := hrel
    by_cases hlt : i < n
    · obtain ⟨g, rfl⟩ := f3 (by omega)
      obtain ⟨m, hm⟩ : ∃ m, s.ms[i]? = some m := ⟨_, List.getElem?_eq_getElem (by rw [← HN.out]; exact hlt)⟩
      obtain ⟨-, c1, -⟩ := HH.out.cells HV.out hm
      obtain ⟨A', c', hmv, -⟩ := (HH.out.bytes m (List.mem_of_getElem? hm)).bs.open_
      rw [hmv] at c1
      have hst := sumTo_step (HH.out.fil hm)
      have hfl : m.fil.b.length = m.b.length := rfl
      have hle := sumTo_le r.fs (i + 1)
      rw [hst, hfl] at hle
      have HST := Lib.hid hst
      obtain ⟨S, hS⟩ : ∃ S, S = sumTo r.fs i := ⟨_, rfl⟩
      rw [← hS] at hle ⊢
      have HS := Lib.hid hS
      have hw : IntKind.i64.wrap ((S : Int) + (m.b.length : Int)) = (S : Int) + (m.b.length : Int) := by rw [IntWalk.i64_in _ (by omega)]
      clear f3 hm hmv hst hfl hS
      go_wp2_with fail
      go_roundw
      case rel =>
        refine ⟨i + 1, by omega, by simp, ?_, by simp⟩
        rw [HST.out, ← HS.out]
        show _ = Value.int .i64 ((S + m.b.length : Nat) : Int)
        congr 1
      case measure => simp [intOf]; omega
    · have hie : i = n := by omega
      have HR := Lib.hid (show sumTo r.fs i = r.used by rw [hie, HN.out, HL.out]; exact sumTo_end r.fs)
      clear hie
      go_wp2_with fail
      go_ret
      exact ⟨by rw [← HR.out]; rfl, rfl⟩
theorem rnames_any {z br : Nat} {W : World} {s : RSt} {r : Dk} (h : RkM z W br s r) (hok : r.Ok) :
    Calls Try.prog 33 #[.pointer (some ⟨br, 0, none⟩)] W fun e w' => ∃ v, e = .returned v ∧ Ss w' v (r.fs.map fun f => f.name) ∧ Ext W w' := by
  obtain ⟨i0, HI0, HZ00, HZ10, HZ20⟩ := info_parts infoStr
  obtain ⟨A, c, hv, f1, f2, f3⟩ := h.form
  have k1 := h.str.blk.cell (i := 1) rfl
  rw [hv] at k1
  have HH := Lib.hid h
  have HL := Lib.hid h.len
  obtain ⟨n, hn⟩ : ∃ n, n = s.ms.length := ⟨_, rfl⟩
  rw [← hn] at k1 f1 f3 hv
  have HN := Lib.hid hn
  have HV := Lib.hid hv
  unfold maxLen at f2
  have hfew : n ≤ 64 := by rw [HN.out, HL.out]; exact hok.few
  have HI := Lib.hid HI0
  have HZ0 := Lib.hid HZ00
  have HZ1 := Lib.hid HZ10
  have HZ2 := Lib.hid HZ20
  have hbr : br < W.heap.size := h.str.lt
  clear h hn hv hok HI0 HZ00 HZ10 HZ20
  go_enter Try.func33, Try.ntmps33
  go_wp2_with fail
  go_loopw [3, 4] (fun t i wr => ∃ k : Nat, k ≤ n ∧ i = .int .i64 k ∧ wr.ownsRow W.heap.size 9 1 t k (((r.fs.map fun f => f.name).take k).map strV) ∧ Ext W wr) (fun _ i _ => n - (intOf i).toNat)
  case atStart => exact ⟨0, Nat.zero_le _, rfl, by simpa using World.ownsRow_nil _ _ _ _, Ext.refl _⟩
  case round =>
    obtain ⟨i, hi, rfl, hrow, hx⟩ := hrel
    have HX := Lib.hid hx
    have k1' := (hx.cell (p := ⟨br, 1, none⟩) hbr).trans k1
    have hsz := hx.size
    by_cases hlt : i < n
    · obtain ⟨g, rfl⟩ := f3 (by omega)
      obtain ⟨m, hm⟩ : ∃ m, s.ms[i]? = some m := ⟨_, List.getElem?_eq_getElem (by rw [← HN.out]; exact hlt)⟩
      obtain ⟨c0, -, -⟩ := (HH.out.ext hx).cells HV.out hm
      have hst : ((r.fs.map fun f => f.name).take (i + 1)).map strV = ((r.fs.map fun f => f.name).take i).map strV ++ [strV m.name] := by
        rw [List.take_add_one, List.getElem?_map, HH.out.fil hm]
        simp [RFil.fil]
      have HST := Lib.hid hst
      unfold strV at c0
      clear f3 hm hst hx
      go_wp2_with (at_builtin; refine wpList_append_own _ rfl (.tmp 14) (.tmp 23) 45 rfl W.heap.size 9 i0 (.string ⟨#[]⟩) 1 16 Try.underlying45 HI.out HZ0.out HZ1.out HZ2.out rfl (by decide) _ _ _ rfl (hrow.alloc _) ⟨wr.heap.size, 0, none⟩ 1 1 [strV m.name] rfl rfl (cell_one_new _ _ _) (by simp [Value.oneCell', strV]) (by unfold maxLen; omega) (by omega) (by simp; omega) ?_; intro v' w3 hown' hg3 hnil3; go_frame)
      go_roundw
      case rel =>
        refine ⟨i + 1, by omega, by simp, by rw [HST.out]; exact hown', ?_⟩
        have hlow := fun j (hj : _ = some j) => (hrow.lt j hj).1
        have e2 := HX.out.trans (ext_alloc wr (.cells #[strV m.name] 9))
        refine ⟨hg3.os.trans e2.os, hg3.tape.trans e2.tape, hg3.output.trans e2.output, Nat.le_trans e2.size hg3.size, fun k hk => (hg3.block k (Nat.lt_of_lt_of_le hk e2.size) (fun e => ?_)).trans (e2.block k hk)⟩
        have := hlow k e.symm
        omega
      case measure => simp [intOf]; omega
    · have hie : i = n := by omega
      have HR := Lib.hid (show (r.fs.map fun f => f.name).take i = r.fs.map fun f => f.name by rw [List.take_of_length_le]; simp; rw [← HL.out, ← HN.out]; omega)
      have HE := Lib.hid (show i = (r.fs.map fun f => f.name).length by simp; rw [← HL.out, ← HN.out]; exact hie)
      have HROW := Lib.hid hrow
      clear hie hx hrow
      go_wp2_with fail
      go_ret
      refine ⟨_, rfl, ?_, HX.out⟩
      have := HROW.out
      rw [HR.out, HE.out] at this
      exact ss_of_row this

/-- Does the power fail in an operation? -/
theorem rcounted_any {z br : Nat} {W : World} {s : RSt} {r : Dk} (h : RkM z W br s r) (hsm : r.Small) :
    Calls Try.prog 57 #[.pointer (some ⟨br, 0, none⟩)] W fun e w' => (∀ k, r.dead = some k → e = .returned (.bool false) ∧ w' = W ∧ s.k = k) ∧ (r.dead = none → e = .returned (.bool true) ∧ ∃ n', RkS z W w' br s r { s with n := n' } r.tick) := by
  have k5 := h.str.blk.cell (i := 5) rfl
  have k6 := h.str.blk.cell (i := 6) rfl
  have k4 := h.str.blk.cell (i := 4) rfl
  have t6 := h.str.blk.thaw 6
  have t4 := h.str.blk.thaw 4
  have hw4 : IntKind.i64.wrap ((r.ops : Int) + 1) = ((r.ops + 1 : Nat) : Int) := by rw [IntWalk.i64_in _ (by have := hsm.cnt; omega)]; omega
  rcases hpl : r.plan with _ | ⟨n, k⟩
  · have hd : r.dead = none := by simp [Dk.dead, hpl]
    have ht : r.tick = { r with ops := r.ops + 1 } := by simp [Dk.tick, hpl]
    rw [hpl] at k5
    simp only [Option.isSome_none] at k5
    have hP := h.put (s' := s) (r' := r.tick) 4 (.int .i64 ((r.ops + 1 : Nat) : Int)) (by rw [ht]; rfl) rfl rfl (by rw [ht]) (by rw [ht]; exact h.plan)
    have HX := Lib.hid (⟨hP, Kb.set (rall br s) W br 4 (.int .i64 ((r.ops + 1 : Nat) : Int)) (.inl rfl), fun k hk => .inl hk⟩ : RkS z W _ br s r { s with n := s.n } r.tick)
    have HD := Lib.hid hd
    clear hP h ht hd hpl
    go_enter Try.func57, Try.ntmps57
    go_wp2_with fail
    go_ret
    exact ⟨fun k hk => (by rw [HD.out] at hk; cases hk), fun _ => ⟨rfl, s.n, HX.out⟩⟩
  · obtain ⟨hn0, hk0⟩ := h.plan n k hpl
    have hnb : n < 9223372036854775808 := hsm.plan n k hpl
    rw [hpl] at k5
    simp only [Option.isSome_some] at k5
    rw [hn0] at k6
    rcases n with _ | n
    · have hd : r.dead = some k := by simp [Dk.dead, hpl]
      have HD := Lib.hid hd
      have HK := Lib.hid hk0
      simp only [Int.natCast_zero, Int.ofNat_zero] at k6
      clear h hd hpl hk0 hn0
      go_enter Try.func57, Try.ntmps57
      go_wp2_with fail
      go_ret
      exact ⟨fun k' hk => (by rw [HD.out] at hk; injection hk with hk; exact ⟨rfl, rfl, HK.out.trans hk⟩), fun hk => (by rw [HD.out] at hk; cases hk)⟩
    · have hd : r.dead = none := by simp [Dk.dead, hpl]
      have ht : r.tick = { r with plan := some (n, k), ops := r.ops + 1 } := by simp [Dk.tick, hpl]
      have hwn : IntKind.i64.wrap (((n + 1 : Nat) : Int) - 1) = (n : Int) := by rw [IntWalk.i64_in _ (by omega)]; omega
      have hz0 : ¬ (((n + 1 : Nat) : Int) = 0) := by omega
      have h1 := h.put (s' := { s with n := (n : Int) }) (r' := { r with plan := some (n, k) }) 6 (.int .i64 (n : Int)) (by unfold rstr; rw [hpl]; rfl) rfl rfl rfl (fun a b hab => by injection hab with hab; injection hab with e1 e2; subst e1 e2; exact ⟨rfl, hk0⟩)
      have h2 := h1.put (s' := { s with n := (n : Int) }) (r' := r.tick) 4 (.int .i64 ((r.ops + 1 : Nat) : Int)) (by rw [ht]; rfl) rfl rfl (by rw [ht]) (by rw [ht]; exact h1.plan)
      have HX := Lib.hid (⟨h2, (Kb.set (rall br s) W br 6 (.int .i64 (n : Int)) (.inl rfl)).trans (Kb.set (rall br s) _ br 4 (.int .i64 ((r.ops + 1 : Nat) : Int)) (.inl rfl)) (fun _ h => .inl h), fun k hk => .inl hk⟩ : RkS z W _ br s r { s with n := (n : Int) } r.tick)
      have HD := Lib.hid hd
      clear h h1 h2 ht hd hpl hn0 hk0
      generalize ((n + 1 : Nat) : Int) = N1 at *
      go_enter Try.func57, Try.ntmps57
      go_wp2_with fail
      go_ret
      exact ⟨fun k hk => (by rw [HD.out] at hk; cases hk), fun _ => ⟨rfl, _, HX.out⟩⟩
theorem findZ_some {name : List UInt8} {fs : List Fil} {i : Nat} (h : findI name fs = some i) : findZ name fs = (i : Int) := by unfold findZ; rw [h]
theorem findZ_none {name : List UInt8} {fs : List Fil} (h : findI name fs = none) : findZ name fs = -1 := by unfold findZ; rw [h]
theorem rread_any {z br : Nat} {W : World} {s : RSt} {r : Dk} (h : RkM z W br s r) (hok : r.Ok) (name : List UInt8) :
    Calls Try.prog 32 #[.pointer (some ⟨br, 0, none⟩), strV name] W fun e w' => ∃ v, e = .returned (.tuple #[v, .int .i64 (((dRead r name).2 : Nat) : Int)]) ∧ OwB w' W.heap.size v (dRead r name).1 ∧ Ext W w' := by
  have HFI := Lib.hid (rfind_any h name)
  obtain ⟨A, c, hv, f1, f2, f3⟩ := h.form
  have k1 := h.str.blk.cell (i := 1) rfl
  rw [hv] at k1
  have HH := Lib.hid h
  have HL := Lib.hid h.len
  obtain ⟨n, hn⟩ : ∃ n, n = s.ms.length := ⟨_, rfl⟩
  rw [← hn] at k1 f1 f3 hv
  have HN := Lib.hid hn
  have HV := Lib.hid hv
  unfold maxLen at f2
  have k2 := h.str.blk.cell (i := 2) rfl
  unfold strV at HFI ⊢
  cases hon : r.on
  · have hres : dRead r name = ([], 150) := by unfold dRead; simp [hon]
    rw [hres]
    rw [hon] at k2
    simp only [Bool.not_false] at k2
    clear h hn hv hok hon
    go_enter Try.func32, Try.ntmps32
    go_wp2_with fail
    go_ret2
    exact ⟨_, rfl, OwB.nil_ _ _, Ext.refl _⟩
  · rw [hon] at k2
    simp only [Bool.not_true] at k2
    cases hfi : findI name r.fs with
    | none =>
      have hfn := (findI_spec name r.fs).2 hfi
      have hres : dRead r name = ([], 152) := by unfold dRead; simp [hon, hfn]
      rw [hres]
      rw [findZ_none hfi] at HFI
      clear h hn hv hok hon hfi hfn
      go_enter Try.func32, Try.ntmps32
      go_wp2_with fail
      refine HFI.out.mono ?_
      rintro e w1 ⟨rfl, rfl⟩
      go_wp2_with fail
      go_ret2
      exact ⟨_, rfl, OwB.nil_ _ _, Ext.refl _⟩
    | some i =>
      obtain ⟨f, hf1, hf2⟩ := (findI_spec name r.fs).1 i hfi
      have hres : dRead r name = (f.b, 0) := by unfold dRead; simp [hon, hf2]
      rw [hres]
      rw [findZ_some hfi] at HFI
      have hil : i < n := by rw [HN.out, HL.out]; exact (List.getElem?_eq_some_iff.1 hf1).1
      obtain ⟨g, rfl⟩ := f3 (by omega)
      obtain ⟨m, hm⟩ : ∃ m, s.ms[i]? = some m := ⟨_, List.getElem?_eq_getElem (by rw [← HN.out]; exact hil)⟩
      have hfe : f = m.fil := by have := HH.out.fil hm; rw [hf1] at this; injection this
      subst hfe
      have hmem := List.mem_of_getElem? hm
      obtain ⟨-, c1, -⟩ := (HH.out.ext (ext_alloc W (.cells #[] 5))).cells HV.out hm
      have k1a := (HH.out.ext (ext_alloc W (.cells #[] 5))).str.blk.cell (i := 1) rfl
      rw [HV.out] at k1a
      have HB := Lib.hid (HH.out.bytes m hmem).bs
      have hlen : m.b.length ≤ 1048576 := hok.len m.fil (List.mem_of_getElem? hf1)
      have hfb : m.fil.b = m.b := rfl
      rw [hfb]
      clear h hn hv hok hon hfi hf1 hf2 hm hmem f3 hres hfb
      go_enter Try.func32, Try.ntmps32
      go_wp2_with fail
      refine HFI.out.mono ?_
      rintro e w1 ⟨rfl, rfl⟩
      go_wp2_with (at_builtin; refine wpList_append_bs _ rfl (.tmp 16) (.tmp 24) rfl (OwB.empty_ w1 (Nat.le_refl _)) (HB.out.ext (ext_alloc _ _)) rfl rfl (by simp; omega) (by simp) ?_; intro v1 w2 hown1 hg1 hat1; have hb1 : Ext w1 w2 := Below.growB (ext_alloc w1 _) (OwB.empty_ w1 (Nat.le_refl _)) hg1 (Nat.le_refl _) (by simp))
      go_ret2
      exact ⟨_, rfl, by simpa using hown1, hb1⟩
end Go.Proofs.Ytkejoiknnigllaa
