/-
  The walk of PolicyNames.
-/
import Derived.Test.YtjamopclfpmgjaaPolLives
import Derived.Test.YtjamopclfpmgjaaPolOpen
namespace Go.Proofs.Ytjamopclfpmgjaa
open Go Go.RowKit Mono Num
set_option linter.unusedSimpArgs false
set_option linter.unusedVariables false

theorem pgoodF_distinct : ∀ (l : List Grp) (met : List (List UInt8)), pgoodF met l = 0 → (∀ g ∈ l, g.1 ∉ met) ∧ ∀ (i j : Nat) n p m q, i < j → l[i]? = some (n, p) → l[j]? = some (m, q) → n ≠ m
  | [], _, _ => ⟨(fun g hg => by cases hg), (fun i j n p m q _ h _ => by simp at h)⟩
  | x :: r, met, h => by
    unfold pgoodF at h
    split at h
    · cases h
    · split at h
      · cases h
      · rename_i hx hm
        obtain ⟨h1, h2⟩ := pgoodF_distinct r _ h
        refine ⟨fun g hg => ?_, fun i j n p m q hij hi hj => ?_⟩
        · rcases List.mem_cons.1 hg with rfl | hg
          · exact hm
          · exact fun e => h1 g hg (by simp [e])
        · cases i with
          | zero =>
            obtain ⟨k, rfl⟩ : ∃ k, j = k + 1 := ⟨j - 1, by omega⟩
            obtain rfl : x = (n, p) := by simpa using hi
            intro e
            exact h1 (m, q) (List.mem_of_getElem? (by simpa using hj)) (by simp [e])
          | succ i =>
            obtain ⟨k, rfl⟩ : ∃ k, j = k + 1 := ⟨j - 1, by omega⟩
            exact h2 i k n p m q (by omega) (by simpa using hi) (by simpa using hj)
theorem pfindF_at : ∀ (l : List Grp) (k i : Nat) (n : List UInt8) (p : Int), l[i]? = some (n, p) → (∀ j m q, j < i → l[j]? = some (m, q) → m ≠ n) → pfindF n k l = some (k + i)
  | [], _, _, _, _, h, _ => by simp at h
  | x :: r, k, 0, n, p, h, _ => by
    obtain rfl : x = (n, p) := by simpa using h
    simp [pfindF]
  | x :: r, k, i + 1, n, p, h, hd => by
    unfold pfindF
    rw [if_neg (hd 0 x.1 x.2 (by omega) (by simp)), pfindF_at r (k + 1) i n p (by simpa using h) (fun j m q hj hg => hd (j + 1) m q (by omega) (by simpa using hg))]
    congr 1
    omega
theorem pfindF_none : ∀ (l : List Grp) (k : Nat) (n : List UInt8), (∀ g ∈ l, g.1 ≠ n) → pfindF n k l = none
  | [], _, _, _ => rfl
  | x :: r, k, n, h => by
    unfold pfindF
    rw [if_neg (h x (by simp))]
    exact pfindF_none r _ n (fun g hg => h g (by simp [hg]))
theorem pgood_F {l : List Grp} (h : pgood l = 0) : pgoodF [] l = 0 := by
  unfold pgood at h
  split at h
  · cases h
  · split at h
    · cases h
    · exact h
theorem pfind_name {l : List Grp} {i : Nat} {n : List UInt8} {p : Int} (h : pgood l = 0) (hi : l[i]? = some (n, p)) : pfind l n = ((i : Int), 0) := by
  rw [pfind_good h, pfindF_at l 0 i n p hi (fun j m q hj hg => (pgoodF_distinct l _ (pgood_F h)).2 j i m q n p hj hg hi)]
  simp
theorem pfind_empty {l : List Grp} (h : pgood l = 0) : pfind l [] = (0, 70) := by
  rw [pfind_good h, pfindF_none l 0 [] (fun g hg e => by
    have := pgoodF_ok l _ (pgood_F h) g hg
    unfold grpOk nameOk at this
    rw [e] at this
    simp at this)]

set_option maxHeartbeats 4000000 in
theorem policyNames_walk (v : Value) (l : List Grp) (w : World) (hv : Gs w v l) :
    Calls Try.prog 5 #[v] w fun e w' => e = .returned (.bool true) ∧ Ext w w' := by
  have hV := hv
  obtain ⟨A, c, rfl, h1, h2, h3, h4⟩ := hv.at_
  by_cases hl : 1000 < l.length
  · go_enter Try.func5, Try.ntmps5
    go_wp2_with fail
    refine (lives_any _).mono ?_
    rintro e w' ⟨rfl, he⟩
    go_wp2_with fail
    go_ret
    exact ⟨rfl, he⟩
  · go_enter Try.func5, Try.ntmps5
    go_wp2_with fail
    have HG := Lib.hid (polGood_any (.slice A l.length c) l w hV)
    obtain ⟨e, hpe⟩ : ∃ e, pgood l = e := ⟨_, rfl⟩
    rw [hpe] at HG
    by_cases he0 : e = 0
    · subst he0
      obtain ⟨hl0, hl4, hall⟩ := pgood_ok hpe
      obtain ⟨b, off, rfl, hb, hcell⟩ := h4 hl0
      have HP := Lib.hid hpe
      have HC := Lib.hid hcell
      have HAL := Lib.hid hall
      clear hpe h4 hcell hall
      refine HG.out.mono ?_
      rintro e w1 ⟨rfl, x1⟩
      go_wp2_with fail
      go_loopw [24] (fun i wr => ∃ k : Nat, k ≤ l.length ∧ i = .int .i64 k ∧ Ext w wr) (fun i _ => l.length - (intOf i).toNat)
      case atStart => exact ⟨0, Nat.zero_le _, rfl, x1⟩
      case round =>
        obtain ⟨i, hi, rfl, hx⟩ := hrel
        by_cases hlt : i < l.length
        · obtain ⟨n, p, hget, hc1, hc2, hn, hp⟩ := HC.out i hlt
          have HF := Lib.hid (fun w hw => polFind_any (.slice (some ⟨b, off, none⟩) l.length c) l n w hw)
          have HO := Lib.hid (fun w hw => polOf_any (.slice (some ⟨b, off, none⟩) l.length c) l (i : Int) w hw (by omega))
          rw [pfind_name HP.out hget] at HF
          rw [pof_in HP.out hget] at HO
          replace hc1 := (hx.cell (p := ⟨b, off + i * 2, none⟩) hb).trans hc1
          replace hc2 := (hx.cell (p := ⟨b, off + i * 2 + 1, none⟩) hb).trans hc2
          unfold strV at hc1 HF
          dsimp only at HF HO
          clear hget
          go_wp2_with fail
          have hbx := Blk.new wr #[.string ⟨n.toArray⟩, .int .i64 p] 45
          have hx1 : Ext w (wr.alloc (.cells #[.string ⟨n.toArray⟩, .int .i64 p] 45)) := Ext.trans hx (ext_alloc _ _)
          refine (HF.out _ (hV.ext hx1)).mono ?_
          rintro e w2 ⟨rfl, x2⟩
          replace hbx := hbx.ext x2
          replace hx1 := Ext.trans hx1 x2
          clear HF
          go_wp2_with fail
          refine (HO.out _ (hV.ext hx1)).mono ?_
          rintro e w3 ⟨rfl, x3⟩
          replace hbx := hbx.ext x3
          replace hx1 := Ext.trans hx1 x3
          have d1 := hbx.cell (i := 1) rfl
          have hin : ((i : Int) != (i : Int)) = false := by simp
          have hpn : (p != p) = false := by simp
          clear HO hbx
          go_wp2_with fail
          go_roundw
          case rel => exact ⟨i + 1, by omega, by go_num, hx1⟩
          case measure => simp [intOf]; omega
        · have HF := Lib.hid (fun w hw => polFind_any (.slice (some ⟨b, off, none⟩) l.length c) l [] w hw)
          have HO := Lib.hid (fun w hw => polOf_any (.slice (some ⟨b, off, none⟩) l.length c) l (l.length : Int) w hw (by omega))
          rw [pfind_empty HP.out] at HF
          rw [pof_out HP.out (.inr (Int.le_refl _))] at HO
          unfold strV at HF
          dsimp only at HF HO
          go_wp2_with fail
          refine (HF.out _ (hV.ext hx)).mono ?_
          rintro e w2 ⟨rfl, x2⟩
          clear HF
          go_wp2_with fail
          refine (HO.out _ (hV.ext (Ext.trans hx x2))).mono ?_
          rintro e w3 ⟨rfl, x3⟩
          clear HO
          go_wp2_with fail
          refine (lives_any _).mono ?_
          rintro e w4 ⟨rfl, x4⟩
          go_wp2_with fail
          go_ret
          exact ⟨rfl, Ext.trans (Ext.trans hx x2) (Ext.trans x3 x4)⟩
    · have he1 : ((e : Int) != 0) = true := by rw [bne_iff_ne]; omega
      clear hpe he0
      refine HG.out.mono ?_
      rintro e w1 ⟨rfl, x1⟩
      go_wp2_with fail
      refine (lives_any _).mono ?_
      rintro e w2 ⟨rfl, x2⟩
      go_wp2_with fail
      go_ret
      exact ⟨rfl, Ext.trans x1 x2⟩
end Go.Proofs.Ytjamopclfpmgjaa
