/-
  The walk of policy.Parse.
-/
import Derived.Test.YtjamopclfpmgjaaPolParse
namespace Go.Proofs.Ytjamopclfpmgjaa
open Go Go.RowKit Mono Num
set_option linter.unusedVariables false
set_option linter.unusedSimpArgs false

def wordOf (p : Int) : List UInt8 := if p = 1 then lastW else delW
theorem word_any (p : Int) (w : World) : Calls Try.prog 24 #[.int .i64 p] w fun e w' => e = .returned (strV (wordOf p)) ∧ w = w' := by
  by_cases h : p = 1
  · subst h
    go_enter Try.func24, Try.ntmps24
    go_wp2_with fail
    go_ret
    exact ⟨rfl, rfl⟩
  · have hb : (p == 1) = false := by simpa using h
    have HW := Lib.hid (show wordOf p = delW by unfold wordOf; rw [if_neg h])
    clear h
    go_enter Try.func24, Try.ntmps24
    go_wp2_with fail
    go_ret
    exact ⟨by rw [HW.out]; rfl, rfl⟩
theorem infoGrp : (Try.prog.info? 45).map (fun i => (i.zero, i.size, i.bytes)) = some (some (.agg #[.string ⟨#[]⟩, .int .i64 0]), 2, 24) := by kernel_rfl
theorem infoRune : (Try.prog.info? 21).map (fun i => (i.zero, i.size, i.bytes)) = some (some (.int .i32 0), 1, 4) := by kernel_rfl
/-- 'string(runes)'. -/
theorem runes_str {w : World} {base : Nat} {v : Value} {ns : List Int} (h : w.ownsRow base 21 1 v ns.length (ns.map rv)) : (convert 58 9 v).run Try.prog w = .ok (.string ⟨(rb ns).toArray⟩) w := by
  have e : (⟨(rb ns).toArray⟩ : ByteArray) = runesBytes ns := by unfold rb; simp
  rw [e]
  have hO : Ow 21 w base v (ns.map rv) := by unfold Ow; rw [List.length_map]; exact h
  rcases hO.form with ⟨rfl, hn⟩ | ⟨g, cap, rfl, _, _, _, _, hc, _⟩
  · obtain rfl : ns = [] := by simpa using hn
    exact run_convert_runes_nil w _ _ 21 0 0 Try.underlying58 Try.underlying21 Try.underlying9
  · have := run_convert_runes (P := Try.prog) w 58 9 21 ⟨g, 0, none⟩ (ns.map rv).length cap ns (by simp) Try.underlying58 Try.underlying21 Try.underlying9 (fun j hj => by
      rw [add_at, Nat.zero_add]
      exact hc j _ (by rw [List.getElem?_map, List.getD_eq_getElem?_getD, List.getElem?_eq_getElem hj]; rfl))
    rw [this]
    simp

theorem two_new (w : World) (a b : Value) (T : TypeId) : ∀ j u, [a, b][j]? = some u → (w.alloc (.cells #[a, b] T)).cell? ((⟨w.heap.size, 0, none⟩ : Addr).add j) = some u := by
  intro j u h
  rw [add_at, Nat.zero_add]
  exact (Blk.new w #[a, b] T).cell (i := j) h
set_option maxHeartbeats 4000000 in
theorem add_any (n : Nat) (s : PAt) (vl vn vr : Value) (w : World) (h : PMem n s vl vn vr w) (hl : s.l.length ≤ 1000) (hb : s.nm.length ≤ 1000) :
    Calls Try.prog 26 #[.pointer (some ⟨n + 1 + 1, 0, none⟩), .pointer (some ⟨n, 0, none⟩), .pointer (some ⟨n + 1, 0, none⟩), .pointer (some ⟨n + 1 + 1 + 1, 0, none⟩)] w fun e w' =>
      (∃ r, e = .returned r) ∧ (∃ vl', PMem n (padd s) vl' (.slice none 0 0) (.slice none 0 0) w') ∧ Below n w w' ∧ w'.heap[n + 4]? = w.heap[n + 4]? := by
  obtain ⟨i0, hi0, hz0, hz1, hz2⟩ := info_parts infoGrp
  have cl := h.bl.cell
  have cn := h.bn.cell
  have cr := h.br.cell
  have kn := runes_str h.rn
  have kr := runes_str h.rr
  have hlim := h.lim
  have rl := h.rl
  have HM := Lib.hid h
  obtain ⟨l, nm, rs, bh⟩ := s
  dsimp only at *
  generalize hq : rb rs = q at *
  generalize hm : rb nm = m at *
  have HQ := Lib.hid hq
  have HMM := Lib.hid hm
  clear hq hm h
  by_cases h1 : q = lastW
  · subst h1
    have HP := Lib.hid (show polW lastW = 1 by unfold polW; rw [if_pos rfl])
    unfold lastW at kr
    go_enter Try.func26, Try.ntmps26
    go_wp2_with fail
    refine (word_any _ _).mono ?_
    rintro e w1 ⟨rfl, rfl⟩
    unfold wordOf strV lastW
    go_wp2_with (at_builtin; refine wpList_append_own_at _ rfl (.tmp 13) (.tmp 18) 22 rfl (n + 5) 45 i0 (.agg #[.string ⟨#[]⟩, .int .i64 0]) 2 24 Try.underlying22 hi0 hz0 hz1 hz2 rfl (by decide) _ _ _ rfl (rl.alloc _) ⟨w.heap.size, 0, none⟩ 1 1 [strV m, .int .i64 1] rfl rfl (two_new _ _ _ _) (by simp [Value.oneCell', strV]) (by unfold maxLen; omega) (by omega) (by simp; omega) ?_; intro v' w2 hown' hgrow _ _; obtain ⟨g', cap', rfl⟩ := ownsRow_succ hown'; obtain ⟨k1, k2, k3, k4⟩ := HM.out.more (g := (m, 1)) hown' rfl rfl hgrow; have d1 := k1.cell; have d2 := k1.frozen; have d3 := k2.bn.cell; have d4 := k2.bn.frozen; have d5 := k2.br.cell; have d6 := k2.br.frozen; have d7 := k2.bb.cell; have d8 := k2.bb.frozen; have K := Lib.hid k2.clear; clear k2 hown' hgrow)
    obtain ⟨j1, j2, j3⟩ := K.out
    go_end0
    refine ⟨⟨_, rfl⟩, ⟨_, by unfold padd; dsimp only; rw [HMM.out, HQ.out, HP.out]; exact j1⟩, k3.trans j2, j3.trans k4⟩
  · by_cases h2 : q = delW
    · subst h2
      have HP := Lib.hid (show polW delW = 2 by unfold polW; rw [if_neg h1, if_pos rfl])
      clear h1
      unfold delW at kr
      go_enter Try.func26, Try.ntmps26
      go_wp2_with fail
      refine (word_any _ _).mono ?_
      rintro e w1 ⟨rfl, rfl⟩
      unfold wordOf strV lastW
      go_wp2_with fail
      refine (word_any _ _).mono ?_
      rintro e w1 ⟨rfl, rfl⟩
      unfold wordOf strV delW
      go_wp2_with (at_builtin; refine wpList_append_own_at _ rfl (.tmp 13) (.tmp 18) 22 rfl (n + 5) 45 i0 (.agg #[.string ⟨#[]⟩, .int .i64 0]) 2 24 Try.underlying22 hi0 hz0 hz1 hz2 rfl (by decide) _ _ _ rfl (rl.alloc _) ⟨w.heap.size, 0, none⟩ 1 1 [strV m, .int .i64 2] rfl rfl (two_new _ _ _ _) (by simp [Value.oneCell', strV]) (by unfold maxLen; omega) (by omega) (by simp; omega) ?_; intro v' w2 hown' hgrow _ _; obtain ⟨g', cap', rfl⟩ := ownsRow_succ hown'; obtain ⟨k1, k2, k3, k4⟩ := HM.out.more (g := (m, 2)) hown' rfl rfl hgrow; have d1 := k1.cell; have d2 := k1.frozen; have d3 := k2.bn.cell; have d4 := k2.bn.frozen; have d5 := k2.br.cell; have d6 := k2.br.frozen; have d7 := k2.bb.cell; have d8 := k2.bb.frozen; have K := Lib.hid k2.clear; clear k2 hown' hgrow)
      obtain ⟨j1, j2, j3⟩ := K.out
      go_end0
      refine ⟨⟨_, rfl⟩, ⟨_, by unfold padd; dsimp only; rw [HMM.out, HQ.out, HP.out]; exact j1⟩, k3.trans j2, j3.trans k4⟩
    · have HP := Lib.hid (show polW q = 0 by unfold polW; rw [if_neg h1, if_neg h2])
      have b1 : (q == [108, 97, 115, 116]) = false := by simpa [lastW] using h1
      have b2 : (q == [100, 101, 108, 101, 116, 101]) = false := by simpa [delW] using h2
      clear h1 h2
      go_enter Try.func26, Try.ntmps26
      go_wp2_with fail
      refine (word_any _ _).mono ?_
      rintro e w1 ⟨rfl, rfl⟩
      unfold wordOf strV lastW
      go_wp2_with fail
      refine (word_any _ _).mono ?_
      rintro e w1 ⟨rfl, rfl⟩
      unfold wordOf strV delW
      go_wp2_with (at_builtin; refine wpList_append_own_at _ rfl (.tmp 13) (.tmp 18) 22 rfl (n + 5) 45 i0 (.agg #[.string ⟨#[]⟩, .int .i64 0]) 2 24 Try.underlying22 hi0 hz0 hz1 hz2 rfl (by decide) _ _ _ rfl (rl.alloc _) ⟨w.heap.size, 0, none⟩ 1 1 [strV m, .int .i64 0] rfl rfl (two_new _ _ _ _) (by simp [Value.oneCell', strV]) (by unfold maxLen; omega) (by omega) (by simp; omega) ?_; intro v' w2 hown' hgrow _ _; obtain ⟨g', cap', rfl⟩ := ownsRow_succ hown'; obtain ⟨k1, k2, k3, k4⟩ := HM.out.more (g := (m, 0)) hown' rfl rfl hgrow; have d1 := k1.cell; have d2 := k1.frozen; have d3 := k2.bn.cell; have d4 := k2.bn.frozen; have d5 := k2.br.cell; have d6 := k2.br.frozen; have d7 := k2.bb.cell; have d8 := k2.bb.frozen; have K := Lib.hid k2.clear; clear k2 hown' hgrow)
      obtain ⟨j1, j2, j3⟩ := K.out
      go_end0
      refine ⟨⟨_, rfl⟩, ⟨_, by unfold padd; dsimp only; rw [HMM.out, HQ.out, HP.out]; exact j1⟩, k3.trans j2, j3.trans k4⟩
end Go.Proofs.Ytjamopclfpmgjaa
