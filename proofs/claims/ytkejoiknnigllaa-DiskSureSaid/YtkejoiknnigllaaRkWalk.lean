/-
  Layer 15: the document's disk: a file's place, the counts, a new disk, a plan, power, a file's bytes.
-/
import Derived.Test.YtkejoiknnigllaaRkMem
namespace Go.Proofs.Ytkejoiknnigllaa
open Go Go.RowKit Mono
set_option linter.unusedVariables false
set_option linter.unusedSimpArgs false
set_option maxRecDepth 100000
set_option maxHeartbeats 1000000

theorem findI_step {name : List UInt8} {fs : List Fil} {i : Nat} {f : Fil} (hpre : ∀ j, j < i → ∀ x, fs[j]? = some x → x.name ≠ name) (hf : fs[i]? = some f) (he : f.name = name) : findZ name fs = (i : Int) := by
  have : findI name fs = some i := by
    unfold findI
    rw [List.findIdx?_eq_some_iff_getElem]
    have hi := (List.getElem?_eq_some_iff.1 hf).1
    have hfe := (List.getElem?_eq_some_iff.1 hf).2
    refine ⟨hi, by rw [hfe]; simpa using he, fun j hj => ?_⟩
    have := hpre j hj _ (List.getElem?_eq_getElem (by omega))
    simpa using this
  unfold findZ
  rw [this]
theorem findI_end {name : List UInt8} {fs : List Fil} (hpre : ∀ j, j < fs.length → ∀ x, fs[j]? = some x → x.name ≠ name) : findZ name fs = -1 := by
  have : findI name fs = none := by
    unfold findI
    rw [List.findIdx?_eq_none_iff]
    intro x hx
    obtain ⟨j, hj⟩ := List.getElem?_of_mem hx
    have := hpre j (List.getElem?_eq_some_iff.1 hj).1 x hj
    simpa using this
  unfold findZ
  rw [this]
theorem RkM.fil {z br : Nat} {W : World} {s : RSt} {r : Dk} (h : RkM z W br s r) {i : Nat} {m : RFil} (hm : s.ms[i]? = some m) : r.fs[i]? = some m.fil := by
  rw [← h.fs, List.getElem?_map, hm]
  rfl
theorem RkM.len {z br : Nat} {W : World} {s : RSt} {r : Dk} (h : RkM z W br s r) : s.ms.length = r.fs.length := by rw [← h.fs]; simp
theorem rfind_any {z br : Nat} {W : World} {s : RSt} {r : Dk} (h : RkM z W br s r) (name : List UInt8) :
    Calls Try.prog 55 #[.pointer (some ⟨br, 0, none⟩), strV name] W fun e w' => e = .returned (.int .i64 (findZ name r.fs)) ∧ w' = W := by
  obtain ⟨A, c, hv, f1, f2, f3⟩ := h.form
  have k1 := h.str.blk.cell (i := 1) rfl
  rw [hv] at k1
  have HH := Lib.hid h
  have HL := Lib.hid h.len
  unfold strV
  obtain ⟨n, hn⟩ : ∃ n, n = s.ms.length := ⟨_, rfl⟩
  rw [← hn] at k1 f1 f3 hv
  have HN := Lib.hid hn
  have HV := Lib.hid hv
  clear h hn hv
  unfold maxLen at f2
  go_enter Try.func55, Try.ntmps55
  go_wp2_with fail
  go_loopw [5] (fun i wr => ∃ k : Nat, k ≤ n ∧ i = .int .i64 k ∧ (∀ j, j < k → ∀ x, r.fs[j]? = some x → x.name ≠ name) ∧ wr = W) (fun i _ => n - (intOf i).toNat)
  case atStart => exact ⟨0, Nat.zero_le _, rfl, fun j hj => absurd hj (Nat.not_lt_zero _), rfl⟩
  case round =>
    obtain ⟨i, hi, rfl, hpre, rfl⟩ := hrel
    have HPRE := Lib.hid hpre
    clear hpre
    by_cases hlt : i < n
    · obtain ⟨g, rfl⟩ := f3 (by omega)
      obtain ⟨m, hm⟩ : ∃ m, s.ms[i]? = some m := ⟨_, List.getElem?_eq_getElem (by rw [← HN.out]; exact hlt)⟩
      obtain ⟨c0, -, -⟩ := HH.out.cells HV.out hm
      have HM := Lib.hid hm
      have hfil := HH.out.fil hm
      have HF := Lib.hid hfil
      unfold strV at c0
      clear f3 hm hfil
      by_cases hnn : m.name = name
      · have hnb : (m.name == name) = true := by simpa using hnn
        have HR := Lib.hid (findI_step HPRE.out HF.out hnn)
        clear hnn
        go_wp2_with fail
        go_ret
        exact ⟨by rw [HR.out]; rfl, rfl⟩
      · have hnb : (m.name == name) = false := by simpa using hnn
        have HNE := Lib.hid hnn
        clear hnn
        go_wp2_with fail
        go_roundw
        case rel =>
          refine ⟨i + 1, by omega, by simp, fun j hj x hx => ?_, by simp⟩
          rcases Nat.lt_or_ge j i with h1 | h1
          · exact HPRE.out j h1 x hx
          · obtain rfl : j = i := by omega
            rw [HF.out] at hx
            injection hx with hx
            rw [← hx]
            exact HNE.out
        case measure => simp [intOf]; omega
    · have hie : i = n := by omega
      have HR := Lib.hid (findI_end (name := name) (fs := r.fs) (fun j hj => HPRE.out j (by rw [hie, HN.out, HL.out]; exact hj)))
      clear hie
      go_wp2_with fail
      go_ret
      exact ⟨by rw [HR.out]; rfl, rfl⟩
theorem rpower_any {z br : Nat} {W : World} {s : RSt} {r : Dk} (h : RkM z W br s r) :
    Calls Try.prog 14 #[.pointer (some ⟨br, 0, none⟩)] W fun e w' => e = .returned (.tuple #[]) ∧ ∃ s', RkS z W w' br s r s' (dPower r) := by
  have t2 := h.str.blk.thaw 2
  have k2 := h.str.blk.cell (i := 2) rfl
  have HP := Lib.hid (h.put (s' := s) (r' := dPower r) 2 (.bool false) rfl rfl rfl rfl h.plan)
  have HK := Lib.hid (Kb.set (rall br s) W br 2 (.bool false) (.inl rfl))
  clear h
  go_enter Try.func14, Try.ntmps14
  go_wp2_with fail
  go_end0
  exact ⟨rfl, s, HP.out, HK.out, fun _ h => .inl h⟩
theorem rarm_any {z br : Nat} {W : World} {s : RSt} {r : Dk} (h : RkM z W br s r) (n keep : Int) :
    Calls Try.prog 53 #[.pointer (some ⟨br, 0, none⟩), .int .i64 n, .int .i64 keep] W (RkPost z W br s r (dArm r n keep)) := by
  have HH := Lib.hid h
  have t5 := h.str.blk.thaw 5
  have k5 := h.str.blk.cell (i := 5) rfl
  have t6 := h.str.blk.thaw 6
  have k6 := h.str.blk.cell (i := 6) rfl
  have t7 := h.str.blk.thaw 7
  have k7 := h.str.blk.cell (i := 7) rfl
  have k2 := h.str.blk.cell (i := 2) rfl
  cases hon : r.on
  · have hres : dArm r n keep = (r, 150) := by unfold dArm; simp [hon]
    rw [hres]
    rw [hon] at k2
    simp only [Bool.not_false] at k2
    clear h
    go_enter Try.func53, Try.ntmps53
    go_wp2_with fail
    go_ret
    exact RkPost.same HH.out (Ext.refl _) 150
  · rw [hon] at k2
    simp only [Bool.not_true] at k2
    by_cases hn : n < 0
    · have hres : dArm r n keep = (r, 2) := by unfold dArm; simp [hon, hn]
      rw [hres]
      clear h
      go_enter Try.func53, Try.ntmps53
      go_wp2_with fail
      go_ret
      exact RkPost.same HH.out (Ext.refl _) 2
    · have hres : dArm r n keep = ({ r with plan := some (n.toNat, keep) }, 0) := by unfold dArm; rw [if_neg (by simp [hon]), if_neg hn]
      rw [hres]
      have hset := h.str.set 5 (.bool true)
      have h1 := (hset.set 6 (.int .i64 n)).set 7 (.int .i64 keep)
      have hk := ((Kb.set (rall br s) W br 5 (.bool true) (.inl rfl)).trans (Kb.set (rall br s) _ br 6 (.int .i64 n) (.inl rfl)) (fun _ h => .inl h)).trans (Kb.set (rall br s) _ br 7 (.int .i64 keep) (.inl rfl)) (fun _ h => .inl h)
      have hkb : Kb (fun k => k = br) W (((W.setCell ⟨br, 5, none⟩ (.bool true)).setCell ⟨br, 6, none⟩ (.int .i64 n)).setCell ⟨br, 7, none⟩ (.int .i64 keep)) :=
        ((Kb.set (fun k => k = br) W br 5 (.bool true) rfl).trans (Kb.set (fun k => k = br) _ br 6 (.int .i64 n) rfl) (fun _ h => .inl h)).trans (Kb.set (fun k => k = br) _ br 7 (.int .i64 keep) rfl) (fun _ h => .inl h)
      have HX := Lib.hid (⟨⟨h.fs, h1, fun a k hp => by injection hp with hp; injection hp with e1 e2; subst e1 e2; exact ⟨by show n = _; omega, rfl⟩, row_kb h.row hkb (fun j hj e => h.ne hj e), fun m hm => (h.bytes m hm).kb hkb (fun j hj e => (h.bytes m hm).ne h.str (by decide) j hj e), h.zd⟩, hk, fun k hk => .inl hk⟩ :
        RkS z W _ br s r { s with n := n, k := keep } { r with plan := some (n.toNat, keep) })
      clear h h1 hk hkb hset hon
      go_enter Try.func53, Try.ntmps53
      go_wp2_with fail
      go_ret
      exact ⟨_, rfl, HX.out⟩
theorem rnew_bad (room : Int) (W : World) (h : room < 0 ∨ 1073741824 < room) : Calls Try.prog 27 #[.int .i64 room] W fun e w' => e = .returned (.pointer none) ∧ w' = W := by
  by_cases h1 : room < 0
  · go_enter Try.func27, Try.ntmps27
    go_wp2_with fail
    go_ret
    exact ⟨rfl, rfl⟩
  · have h2 : 1073741824 < room := h.resolve_left h1
    go_enter Try.func27, Try.ntmps27
    go_wp2_with fail
    go_ret
    exact ⟨rfl, rfl⟩
theorem rnew_any (room : Nat) (W : World) (h : room ≤ 1073741824) : Calls Try.prog 27 #[.int .i64 (room : Int)] W fun e w' => e = .returned (.pointer (some ⟨W.heap.size, 0, none⟩)) ∧ Ext W w' ∧ RkM W.heap.size w' W.heap.size ⟨.slice none 0 0, [], 0, 0⟩ (Dk.fresh room) := by
  have h1 : ¬ ((room : Int) < 0) := by omega
  have h2 : ¬ (1073741824 < (room : Int)) := by omega
  go_enter Try.func27, Try.ntmps27
  go_wp2_with fail
  go_ret
  refine ⟨rfl, ext_alloc _ _, rfl, BlkT.new W _ _, fun n k hp => (by cases hp), World.ownsRow_nil _ _ _ _, fun m hm => (by cases hm), Nat.le_refl _⟩
end Go.Proofs.Ytkejoiknnigllaa
